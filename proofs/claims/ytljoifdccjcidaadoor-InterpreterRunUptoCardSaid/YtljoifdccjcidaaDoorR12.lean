/- The statements InterpreterRun, in their second form: for every input of bulk at most 1048576 the call returns true, and each argument reads as it did; and their cards. -/
import Derived.Test.YtljoifdccjcidaaDoorRows
import Derived.Test.YtljoifdccjcidaaDoorCards
import Derived.Test.YtljoifdccjcidaaDoorTie
import Derived.Deep.DeepHandedRow
import Derived.LaidLaws
import Derived.WalkKit
import Derived.ProofKit
import Derived.Test.YtljoifdccjcidaaDoorR8
import Derived.OpenShut
import Derived.JoinedCond
import Derived.Test.YtljoifdccjcidaaDoorR11
import Derived.Test.YtljoifdccjcidaaDoorR10
set_option linter.unusedVariables false
set_option linter.unusedSimpArgs false
namespace Go.Proofs.YtljoifdccjcidaaDoor
open Go.Ab Go.Ab.YtljoifdccjcidaaDoor
theorem own:ownKnob Tryd.prog.godebug=none:=by kernel_rfl
theorem laidOut:laidOutB Tryd.prog=true:=by kernel_rfl
theorem bulkOK {H:Type}:BulkOK (H':=H) Rows.uptoBulk:=by
 have hs:∀ l:List (DataW H),(l.map Rows.uptoBulk).sum ≤ Rows.uptoBulkAll l:=fun l=>by
  induction l with
  | nil=>exact Nat.le_refl _
  | cons x l ih=>rw [List.map_cons,List.sum_cons,Rows.uptoBulkAll]; omega
 refine ⟨fun l=>?_,fun l=>?_,?_,fun e s=>?_,fun e=>?_⟩
 ·rw [Rows.uptoBulk]; exact Nat.le_refl _
 ·cases l <;> simp [Rows.uptoBulk]
 ·rw [Rows.uptoBulk]; exact Nat.le_refl _
 ·have:=hs e
  rw [Rows.uptoBulk]; omega
 ·have:=hs e
  rw [Rows.uptoBulk]; omega
theorem small {H:Type} {ds gs:List (DataW H)} (hk:Rows.uptoSmall H (ds ++ gs)=true):(ds.map Rows.uptoBulk).sum ≤ 1048576:=by
 have h:=of_decide_eq_true hk
 have hs:∀ l:List (DataW H),(l.map Rows.uptoBulk).sum ≤ Rows.uptoBulkAll l:=fun l=>by
  induction l with
  | nil=>exact Nat.le_refl _
  | cons x l ih=>rw [List.map_cons,List.sum_cons,Rows.uptoBulkAll]; omega
 have h1:=hs (ds ++ gs)
 rw [List.map_append,List.sum_append] at h1
 omega
noncomputable def laidWorld (os:Os):World:={ World.holding Tryd.prog os ⟨#[],#[],[]⟩ with heap:=((World.holding Tryd.prog os ⟨#[],#[],[]⟩).heap.modify 0 fun
   | .cells _ t frozen=>.cells #[.int .i64 2,.int .i64 0,.bool false,.int .u64 0] t frozen
   | o=>o) }
theorem astT:∃ e0 e1 e2 e3 e4 s0 s1 s2 s3 s4,AstT Tryd.prog 41 39 46 24 e0 e1 e2 e3 e4 s0 s1 s2 s3 s4:=
 ⟨_,_,_,_,_,_,_,_,_,_,{ e:=Tryd.underlying41,ek:=Tryd.underlying3,eo:=Tryd.underlying3,en:=Tryd.underlying38,es:=Tryd.underlying9,eks:=rfl,es2:=Tryd.underlying39,s:=Tryd.underlying46,sk:=Tryd.underlying3,sn:=Tryd.underlying9,se:=rfl,sa:=rfl,sb:=rfl,ss:=Tryd.underlying24 }⟩
theorem ty_list {P:Program} {t e:TypeId} {α:Type} {f:α→V} {Q:α→Prop} {cs:List V} (ht:P.underlying t=some (.slice e)) (ha:aggT P e=some true)
  (hf:∀ cs,Ty P e cs→∃ a,cs=(f a).cells∧Q a∧∃ l,f a=.agg l) (h:Ty P t cs):∃ l:List α,cs=[.vec (l.map f) .any]∧l.length ≤ maxLen∧∀ x ∈ l,Q x:=by
 obtain ⟨ag,css,h1,rfl,h2,h3⟩:=Zmr ht h
 rw [ha] at h1
 cases h1
 obtain ⟨l,g1,g2,g3⟩:=list_of (f:=f) (Q:=Q) (css:=css) (fun cs hcs=>hf cs (h2 cs hcs))
 exact ⟨l,by rw [g1],by omega,g3⟩
theorem arg_prog {v:V} (h:TyArg Tryd.prog 26 v):∃ p:Prg,v=p.v∧POk p:=by
 obtain ⟨ag,cs,ha,rfl,hc⟩:=h
 obtain ⟨e0,e1,e2,e3,e4,s0,s1,s2,s3,s4,hT⟩:=astT
 have hP:=Tryd.underlying26
 rw [Zes hP] at ha
 cases ha
 obtain ⟨parts,rfl,hl,hp⟩:=Zjy hP hc
 obtain ⟨a,b,c,rfl,g0,g1,g2⟩:=parts_3 rfl hl hp
 obtain ⟨la,rfl,hla,hca⟩:=ty_list (f:=InD.v) (Q:=InOk) Tryd.underlying22 (Zes Tryd.underlying53) (fun cs h=>by
  obtain ⟨x,hx,ok⟩:=ty_in Tryd.underlying53 Tryd.underlying9 Tryd.underlying3 Tryd.underlying3 Tryd.underlying3 h
  exact ⟨x,hx,ok,x.cells,rfl⟩) g0
 obtain ⟨lb,rfl,hlb,hcb⟩:=ty_list (f:=ArD.v) (Q:=ArOk) Tryd.underlying23 (Zes Tryd.underlying73) (fun cs h=>by
  obtain ⟨x,hx,ok⟩:=ty_ar Tryd.underlying73 Tryd.underlying9 Tryd.underlying3 h
  exact ⟨x,hx,ok,x.cells,rfl⟩) g1
 obtain ⟨lc,rfl,hlc,hcc⟩:=(ty_stmt hT g2).2 rfl
 exact ⟨⟨la,lb,lc⟩,rfl,⟨hca,hcb,hcc,hla,hlb,hlc⟩⟩
theorem Zhz (os:Os):laidMet Tryd.prog Rows.interpreterRunUptoRow.laid ((laidWorld os).forCall (fun _ _=>0) ⟨#[],#[.agg #[.slice none 0 0,.slice none 0 0,.slice none 0 0],.slice none 0 0],[]⟩).memory:=
 laidMet_of_run' 8 (by kernel_rfl) (by kernel_rfl)
theorem Zgu (os:Os) {H:Type} (enc:TypeId × Value→H):∃ places,DataW.whole enc Tryd.prog ((laidWorld os).forCall (fun _ _=>0) ⟨#[],#[.agg #[.slice none 0 0,.slice none 0 0,.slice none 0 0],.slice none 0 0],[]⟩).memory Tryd.f3.params.toList Rows.interpreterRunSpec.vars false #[.agg #[.slice none 0 0,.slice none 0 0,.slice none 0 0],.slice none 0 0].toList 8=some ([.agg [.nil,.nil,.nil],.nil],[],places):=
 ⟨[],by kernel_rfl⟩
set_option maxRecDepth 100000 in
theorem Zfr (os:Os) (started:os.Started) (H:Type) (enc:TypeId × Value→H) (F:Stop.Interp) :
  ReturnsInHanded {} Tryd.checked os 3 .any ((Rows.OpenSpec.upto Rows.interpreterRunSpec).preRow enc Tryd.prog Tryd.f3 Rows.interpreterRunUptoRow.domain false Rows.interpreterRunUptoRow.laid) (((Rows.OpenSpec.upto Rows.interpreterRunSpec).at F).post enc Tryd.prog Tryd.f3 false true false false):=by
 obtain ⟨places,hx⟩:=Zgu os enc
 refine returnsInHanded_of_row (C:=Tryd.checked) (s:=Rows.OpenSpec.upto Rows.interpreterRunSpec) own started (by kernel_rfl) Tryd.func3
  (witness_row_at (enc:=enc) (C:=Tryd.checked) false (laidWorld os) #[.agg #[.slice none 0 0,.slice none 0 0,.slice none 0 0],.slice none 0 0] rfl (by kernel_rfl) (by kernel_rfl) (by kernel_rfl)
   (OpenSpec.preRow_of_cond 8 hx (by kernel_rfl) (fun k hk=>by cases hk; kernel_rfl) (by kernel_rfl) (Zhz os))) ?_
 intro W base args ds gs before hval hW _ hcond _ hL _ _
 show Calls _ _ _ _ fun e W'=>∃ v,e=.returned v∧Rows.interpreterRunSpec.post enc Tryd.prog Tryd.f3 false true false false W args v W'
 refine law_contractG bulkOK (N:=1048576) (P:=Tryd.prog) (ts:=[26,22,53,23,73,24,46,39,41,3,38,9,27,30]) (tb:=4) callOK (laid_wr hL) laidOut (by kernel_rfl) (by kernel_rfl) (by kernel_rfl) (by kernel_rfl) rfl (fun ds h=>?_) hval hW (small (hcond _ rfl)) fun vs hvs hbk=>?_
 ·have h:ds.length=2:=h
  match ds,h with
  | [a,b],_=>rfl
 ·have hvs:Zmo Tryd.prog [26,27] vs:=hvs
  obtain ⟨a,b,rfl,ha,hb⟩:=args_2v hvs
  obtain ⟨p,rfl,ok⟩:=arg_prog ha
  obtain ⟨ls,rfl,hl,hw⟩:=arg_lists (e:=30) (u:=38) (by kernel_rfl) (by kernel_rfl) (by kernel_rfl) hb
  have hbp:p.v.bulk ≤ 1048576:=by rw [V.bulks] at hbk; omega
  exact interp30 ok hbp hl hw fun h'=>rfl
theorem Zhf:Rows.InterpreterRunUptoSaid:=
 OpenClaim.holds_of_cond 3 Tryd.f3 rfl rfl rfl rfl rfl rfl rfl ⟨rfl,rfl,rfl,rfl,rfl⟩ rfl rfl rfl rfl rfl (by kernel_rfl) Tryd.func3 (by kernel_rfl)
  (of_decide_eq_true (by kernel_rfl)) (by unfold Func.isWrapper; first | (rw [if_pos (by decide +kernel)]; kernel_rfl) | (rw [if_neg (by decide +kernel)]; exact ⟨rfl,rfl⟩))
  (fun os started H enc _ F=>by rw [OpenClaim.pre_eq_preRow]; exact Zfr os started H enc F)
theorem Zgv (f : FuncId) (fn : Func) (hf : Tryd.pinned.checked.prog.funcNamed "privity/privitylaw30.InterpreterRun" = some f) (hfn : Tryd.pinned.checked.prog.funcs[f]? = some fn) :
  true=Tryd.pinned.checked.prog.looks []∧∀ (j:Nat) t,fn.params[j]?=some t→Tryd.pinned.checked.prog.wantsStandIn t=false:=by
 obtain rfl : f = 3 := Option.some.inj ((show Tryd.prog.funcNamed "privity/privitylaw30.InterpreterRun" = some 3 by kernel_rfl).symm.trans hf) |>.symm
 obtain rfl:fn=Tryd.f3:=(Option.some.inj (Tryd.func3.symm.trans hfn)).symm
 refine ⟨by kernel_rfl,fun j t ht=>?_⟩
 have hp:Tryd.f3.params=#[26,27]:=by kernel_rfl
 rw [hp] at ht
 have hm:=Array.mem_of_getElem? ht
 simp only [List.mem_toArray,List.mem_cons,List.not_mem_nil,or_false] at hm
 rcases hm with rfl | rfl <;> exact (show Tryd.prog.wantsStandIn _=false by kernel_rfl)
theorem interpreterRun_card:Rows.InterpreterRunUptoCardSaid:=
 Claim7.holds_tied_plain_at .later [] _ _ _ _ Zhf (fun _ h=>by cases h) (by kernel_rfl) (fun _ h=>by cases h) interpreterRunUpto_row_tie rfl ⟨rfl,rfl⟩ (by kernel_rfl) rfl Zgv (by kernel_rfl)
end Go.Proofs.YtljoifdccjcidaaDoor
