/- The statements InterpreterAppend, InterpreterTerminates, InterpreterUnusedInput, InterpreterConditional, in their second form: for every input of bulk at most 1048576 the call returns true, and each argument reads as it did; and their cards. -/
import Derived.Test.YtljoifdccjcidaaDoorRows
import Derived.Test.YtljoifdccjcidaaDoorCards
import Derived.Test.YtljoifdccjcidaaDoorTie
import Derived.Deep.DeepHandedRow
import Derived.LaidLaws
import Derived.WalkKit
import Derived.ProofKit
import Derived.Test.YtljoifdccjcidaaDoorY8
import Derived.OpenShut
import Derived.JoinedCond
import Derived.Test.YtljoifdccjcidaaDoorY10
import Derived.Test.YtljoifdccjcidaaDoorY9
set_option linter.unusedVariables false
set_option linter.unusedSimpArgs false
namespace Go.Proofs.YtljoifdccjcidaaDoor
open Go.Ab Go.Ab.YtljoifdccjcidaaDoor
theorem own:ownKnob Tryd.prog.godebug=none:=by kernel_rfl
theorem laidOut:laidOutB Tryd.prog=true:=by kernel_rfl
theorem bulkOK {H:Type}:BulkOK (H':=H) Rows.uptoBulk:=by
 have hs:∀ l:List (DataW H),(l.map Rows.uptoBulk).sum ≤ Rows.uptoBulkAll l:=fun l=>by
  induction l with
  | nil=>exact Nat.le_refl _
  | cons x l ih=>rw [List.map_cons,List.sum_cons,Rows.uptoBulkAll]; omega
 refine ⟨fun l=>?_,fun l=>?_,?_,fun e s=>?_,fun e=>?_⟩
 ·rw [Rows.uptoBulk]; exact Nat.le_refl _
 ·cases l <;> simp [Rows.uptoBulk]
 ·rw [Rows.uptoBulk]; exact Nat.le_refl _
 ·have:=hs e
  rw [Rows.uptoBulk]; omega
 ·have:=hs e
  rw [Rows.uptoBulk]; omega
theorem small {H:Type} {ds gs:List (DataW H)} (hk:Rows.uptoSmall H (ds ++ gs)=true):(ds.map Rows.uptoBulk).sum ≤ 1048576:=by
 have h:=of_decide_eq_true hk
 have hs:∀ l:List (DataW H),(l.map Rows.uptoBulk).sum ≤ Rows.uptoBulkAll l:=fun l=>by
  induction l with
  | nil=>exact Nat.le_refl _
  | cons x l ih=>rw [List.map_cons,List.sum_cons,Rows.uptoBulkAll]; omega
 have h1:=hs (ds ++ gs)
 rw [List.map_append,List.sum_append] at h1
 omega
noncomputable def laidWorld (os:Os):World:={ World.holding Tryd.prog os ⟨#[],#[],[]⟩ with heap:=((World.holding Tryd.prog os ⟨#[],#[],[]⟩).heap.modify 0 fun
   | .cells _ t frozen=>.cells #[.int .i64 2,.int .i64 0,.bool false,.int .u64 0] t frozen
   | o=>o) }
theorem astT:∃ e0 e1 e2 e3 e4 s0 s1 s2 s3 s4,AstT Tryd.prog 41 39 46 24 e0 e1 e2 e3 e4 s0 s1 s2 s3 s4:=
 ⟨_,_,_,_,_,_,_,_,_,_,{ e:=Tryd.underlying41,ek:=Tryd.underlying3,eo:=Tryd.underlying3,en:=Tryd.underlying38,es:=Tryd.underlying9,eks:=rfl,es2:=Tryd.underlying39,s:=Tryd.underlying46,sk:=Tryd.underlying3,sn:=Tryd.underlying9,se:=rfl,sa:=rfl,sb:=rfl,ss:=Tryd.underlying24 }⟩
theorem arg_expr {v:V} (h:TyArg Tryd.prog 41 v):∃ e:Exp,v=e.v∧EOk e:=by
 obtain ⟨ag,cs,ha,rfl,hc⟩:=h
 obtain ⟨e0,e1,e2,e3,e4,s0,s1,s2,s3,s4,hT⟩:=astT
 obtain ⟨e,rfl,ok⟩:=(ty_expr hT hc).1 rfl
 rw [agg_struct hT.e] at ha
 cases ha
 exact ⟨e,Exp.v_ag,ok⟩
theorem ty_list {P:Program} {t e:TypeId} {α:Type} {f:α→V} {Q:α→Prop} {cs:List V} (ht:P.underlying t=some (.slice e)) (ha:aggT P e=some true)
  (hf:∀ cs,Ty P e cs→∃ a,cs=(f a).cells∧Q a∧∃ l,f a=.agg l) (h:Ty P t cs):∃ l:List α,cs=[.vec (l.map f) .any]∧l.length ≤ maxLen∧∀ x ∈ l,Q x:=by
 obtain ⟨ag,css,h1,rfl,h2,h3⟩:=ty_slice ht h
 rw [ha] at h1
 cases h1
 obtain ⟨l,g1,g2,g3⟩:=list_of (f:=f) (Q:=Q) (css:=css) (fun cs hcs=>hf cs (h2 cs hcs))
 exact ⟨l,by rw [g1],by omega,g3⟩
theorem arg_prog {v:V} (h:TyArg Tryd.prog 26 v):∃ p:Prg,v=p.v∧POk p:=by
 obtain ⟨ag,cs,ha,rfl,hc⟩:=h
 obtain ⟨e0,e1,e2,e3,e4,s0,s1,s2,s3,s4,hT⟩:=astT
 have hP:=Tryd.underlying26
 rw [agg_struct hP] at ha
 cases ha
 obtain ⟨parts,rfl,hl,hp⟩:=ty_struct hP hc
 obtain ⟨a,b,c,rfl,g0,g1,g2⟩:=parts_3 rfl hl hp
 obtain ⟨la,rfl,hla,hca⟩:=ty_list (f:=InD.v) (Q:=InOk) Tryd.underlying22 (agg_struct Tryd.underlying53) (fun cs h=>by
  obtain ⟨x,hx,ok⟩:=ty_in Tryd.underlying53 Tryd.underlying9 Tryd.underlying3 Tryd.underlying3 Tryd.underlying3 h
  exact ⟨x,hx,ok,x.cells,rfl⟩) g0
 obtain ⟨lb,rfl,hlb,hcb⟩:=ty_list (f:=ArD.v) (Q:=ArOk) Tryd.underlying23 (agg_struct Tryd.underlying73) (fun cs h=>by
  obtain ⟨x,hx,ok⟩:=ty_ar Tryd.underlying73 Tryd.underlying9 Tryd.underlying3 h
  exact ⟨x,hx,ok,x.cells,rfl⟩) g1
 obtain ⟨lc,rfl,hlc,hcc⟩:=(ty_stmt hT g2).2 rfl
 exact ⟨⟨la,lb,lc⟩,rfl,⟨hca,hcb,hcc,hla,hlb,hlc⟩⟩
theorem interpreterAppend_met (os:Os):laidMet Tryd.prog Rows.interpreterAppendUptoRow.laid ((laidWorld os).forCall (fun _ _=>0) ⟨#[],#[.agg #[.slice none 0 0,.slice none 0 0,.slice none 0 0],.slice none 0 0,.int .u64 0],[]⟩).memory:=
 laidMet_of_run' 8 (by kernel_rfl) (by kernel_rfl)
theorem interpreterAppend_reads (os:Os) {H:Type} (enc:TypeId × Value→H):∃ places,DataW.whole enc Tryd.prog ((laidWorld os).forCall (fun _ _=>0) ⟨#[],#[.agg #[.slice none 0 0,.slice none 0 0,.slice none 0 0],.slice none 0 0,.int .u64 0],[]⟩).memory Tryd.f5.params.toList Rows.interpreterAppendSpec.vars false #[.agg #[.slice none 0 0,.slice none 0 0,.slice none 0 0],.slice none 0 0,.int .u64 0].toList 8=some ([.agg [.nil,.nil,.nil],.nil,.lit (.int .u64 0)],[],places):=
 ⟨[],by kernel_rfl⟩
set_option maxRecDepth 100000 in
theorem interpreterAppend_lifted (os:Os) (started:os.Started) (H:Type) (enc:TypeId × Value→H) (F:Stop.Interp) :
  ReturnsInHanded {} Tryd.checked os 5 .any ((Rows.OpenSpec.upto Rows.interpreterAppendSpec).preRow enc Tryd.prog Tryd.f5 Rows.interpreterAppendUptoRow.domain false Rows.interpreterAppendUptoRow.laid) (((Rows.OpenSpec.upto Rows.interpreterAppendSpec).at F).post enc Tryd.prog Tryd.f5 false true false false):=by
 obtain ⟨places,hx⟩:=interpreterAppend_reads os enc
 refine returnsInHanded_of_row (C:=Tryd.checked) (s:=Rows.OpenSpec.upto Rows.interpreterAppendSpec) own started (by kernel_rfl) Tryd.func5
  (witness_row_at (enc:=enc) (C:=Tryd.checked) false (laidWorld os) #[.agg #[.slice none 0 0,.slice none 0 0,.slice none 0 0],.slice none 0 0,.int .u64 0] rfl (by kernel_rfl) (by kernel_rfl) (by kernel_rfl)
   (OpenSpec.preRow_of_cond 8 hx (by kernel_rfl) (fun k hk=>by cases hk; kernel_rfl) (by kernel_rfl) (interpreterAppend_met os))) ?_
 intro W base args ds gs before hval hW _ hcond _ hL _ _
 show Calls _ _ _ _ fun e W'=>∃ v,e=.returned v∧Rows.interpreterAppendSpec.post enc Tryd.prog Tryd.f5 false true false false W args v W'
 refine law_contractG bulkOK (N:=1048576) (P:=Tryd.prog) (ts:=[26,22,53,23,73,24,46,39,41,3,38,9,27,30]) (tb:=4) callOK (laid_wr hL) laidOut (by kernel_rfl) (by kernel_rfl) (by kernel_rfl) (by kernel_rfl) rfl (fun ds h=>?_) hval hW (small (hcond _ rfl)) fun vs hvs hbk=>?_
 ·have h:ds.length=3:=h
  match ds,h with
  | [a,b,c],_=>rfl
 ·have hvs:TyArgs Tryd.prog [26,27,38] vs:=hvs
  obtain ⟨a,b,c,rfl,ha,hb,hc⟩:=args_3v hvs
  obtain ⟨p,rfl,ok⟩:=arg_prog ha
  obtain ⟨ls,rfl,hl,hw⟩:=arg_lists (e:=30) (u:=38) (by kernel_rfl) (by kernel_rfl) (by kernel_rfl) hb
  have hbp:p.v.bulk ≤ 1048576:=by rw [V.bulks] at hbk; omega
  obtain ⟨n,rfl,hn⟩:=arg_u64 (by kernel_rfl) hc
  exact append30 ok hbp hl hw hn fun h'=>rfl
theorem interpreterAppend_said:Rows.InterpreterAppendUptoSaid:=
 OpenClaim.holds_of_cond 5 Tryd.f5 rfl rfl rfl rfl rfl rfl rfl ⟨rfl,rfl,rfl,rfl,rfl⟩ rfl rfl rfl rfl rfl (by kernel_rfl) Tryd.func5 (by kernel_rfl)
  (of_decide_eq_true (by kernel_rfl)) (by unfold Func.isWrapper; first | (rw [if_pos (by decide +kernel)]; kernel_rfl) | (rw [if_neg (by decide +kernel)]; exact ⟨rfl,rfl⟩))
  (fun os started H enc _ F=>by rw [OpenClaim.pre_eq_preRow]; exact interpreterAppend_lifted os started H enc F)
theorem interpreterAppend_plain (f : FuncId) (fn : Func) (hf : Tryd.pinned.checked.prog.funcNamed "privity/privitylaw30.InterpreterAppend" = some f) (hfn : Tryd.pinned.checked.prog.funcs[f]? = some fn) :
  true=Tryd.pinned.checked.prog.looks []∧∀ (j:Nat) t,fn.params[j]?=some t→Tryd.pinned.checked.prog.wantsStandIn t=false:=by
 obtain rfl : f = 5 := Option.some.inj ((show Tryd.prog.funcNamed "privity/privitylaw30.InterpreterAppend" = some 5 by kernel_rfl).symm.trans hf) |>.symm
 obtain rfl:fn=Tryd.f5:=(Option.some.inj (Tryd.func5.symm.trans hfn)).symm
 refine ⟨by kernel_rfl,fun j t ht=>?_⟩
 have hp:Tryd.f5.params=#[26,27,38]:=by kernel_rfl
 rw [hp] at ht
 have hm:=Array.mem_of_getElem? ht
 simp only [List.mem_toArray,List.mem_cons,List.not_mem_nil,or_false] at hm
 rcases hm with rfl | rfl | rfl <;> exact (show Tryd.prog.wantsStandIn _=false by kernel_rfl)
theorem interpreterAppend_card:Rows.InterpreterAppendUptoCardSaid:=
 Claim7.holds_tied_plain_at .later [] _ _ _ _ interpreterAppend_said (fun _ h=>by cases h) (by kernel_rfl) (fun _ h=>by cases h) interpreterAppendUpto_row_tie rfl ⟨rfl,rfl⟩ (by kernel_rfl) rfl interpreterAppend_plain (by kernel_rfl)
theorem interpreterTerminates_met (os:Os):laidMet Tryd.prog Rows.interpreterTerminatesUptoRow.laid ((laidWorld os).forCall (fun _ _=>0) ⟨#[],#[.agg #[.slice none 0 0,.slice none 0 0,.slice none 0 0],.slice none 0 0],[]⟩).memory:=
 laidMet_of_run' 8 (by kernel_rfl) (by kernel_rfl)
theorem interpreterTerminates_reads (os:Os) {H:Type} (enc:TypeId × Value→H):∃ places,DataW.whole enc Tryd.prog ((laidWorld os).forCall (fun _ _=>0) ⟨#[],#[.agg #[.slice none 0 0,.slice none 0 0,.slice none 0 0],.slice none 0 0],[]⟩).memory Tryd.f10.params.toList Rows.interpreterTerminatesSpec.vars false #[.agg #[.slice none 0 0,.slice none 0 0,.slice none 0 0],.slice none 0 0].toList 8=some ([.agg [.nil,.nil,.nil],.nil],[],places):=
 ⟨[],by kernel_rfl⟩
set_option maxRecDepth 100000 in
theorem interpreterTerminates_lifted (os:Os) (started:os.Started) (H:Type) (enc:TypeId × Value→H) (F:Stop.Interp) :
  ReturnsInHanded {} Tryd.checked os 10 .any ((Rows.OpenSpec.upto Rows.interpreterTerminatesSpec).preRow enc Tryd.prog Tryd.f10 Rows.interpreterTerminatesUptoRow.domain false Rows.interpreterTerminatesUptoRow.laid) (((Rows.OpenSpec.upto Rows.interpreterTerminatesSpec).at F).post enc Tryd.prog Tryd.f10 false true false false):=by
 obtain ⟨places,hx⟩:=interpreterTerminates_reads os enc
 refine returnsInHanded_of_row (C:=Tryd.checked) (s:=Rows.OpenSpec.upto Rows.interpreterTerminatesSpec) own started (by kernel_rfl) Tryd.func10
  (witness_row_at (enc:=enc) (C:=Tryd.checked) false (laidWorld os) #[.agg #[.slice none 0 0,.slice none 0 0,.slice none 0 0],.slice none 0 0] rfl (by kernel_rfl) (by kernel_rfl) (by kernel_rfl)
   (OpenSpec.preRow_of_cond 8 hx (by kernel_rfl) (fun k hk=>by cases hk; kernel_rfl) (by kernel_rfl) (interpreterTerminates_met os))) ?_
 intro W base args ds gs before hval hW _ hcond _ hL _ _
 show Calls _ _ _ _ fun e W'=>∃ v,e=.returned v∧Rows.interpreterTerminatesSpec.post enc Tryd.prog Tryd.f10 false true false false W args v W'
 refine law_contractG bulkOK (N:=1048576) (P:=Tryd.prog) (ts:=[26,22,53,23,73,24,46,39,41,3,38,9,27,30]) (tb:=4) callOK (laid_wr hL) laidOut (by kernel_rfl) (by kernel_rfl) (by kernel_rfl) (by kernel_rfl) rfl (fun ds h=>?_) hval hW (small (hcond _ rfl)) fun vs hvs hbk=>?_
 ·have h:ds.length=2:=h
  match ds,h with
  | [a,b],_=>rfl
 ·have hvs:TyArgs Tryd.prog [26,27] vs:=hvs
  obtain ⟨a,b,rfl,ha,hb⟩:=args_2v hvs
  obtain ⟨p,rfl,ok⟩:=arg_prog ha
  obtain ⟨ls,rfl,hl,hw⟩:=arg_lists (e:=30) (u:=38) (by kernel_rfl) (by kernel_rfl) (by kernel_rfl) hb
  have hbp:p.v.bulk ≤ 1048576:=by rw [V.bulks] at hbk; omega
  exact terminates30 ok hbp hl hw fun h'=>rfl
theorem interpreterTerminates_said:Rows.InterpreterTerminatesUptoSaid:=
 OpenClaim.holds_of_cond 10 Tryd.f10 rfl rfl rfl rfl rfl rfl rfl ⟨rfl,rfl,rfl,rfl,rfl⟩ rfl rfl rfl rfl rfl (by kernel_rfl) Tryd.func10 (by kernel_rfl)
  (of_decide_eq_true (by kernel_rfl)) (by unfold Func.isWrapper; first | (rw [if_pos (by decide +kernel)]; kernel_rfl) | (rw [if_neg (by decide +kernel)]; exact ⟨rfl,rfl⟩))
  (fun os started H enc _ F=>by rw [OpenClaim.pre_eq_preRow]; exact interpreterTerminates_lifted os started H enc F)
theorem interpreterTerminates_plain (f : FuncId) (fn : Func) (hf : Tryd.pinned.checked.prog.funcNamed "privity/privitylaw30.InterpreterTerminates" = some f) (hfn : Tryd.pinned.checked.prog.funcs[f]? = some fn) :
  true=Tryd.pinned.checked.prog.looks []∧∀ (j:Nat) t,fn.params[j]?=some t→Tryd.pinned.checked.prog.wantsStandIn t=false:=by
 obtain rfl : f = 10 := Option.some.inj ((show Tryd.prog.funcNamed "privity/privitylaw30.InterpreterTerminates" = some 10 by kernel_rfl).symm.trans hf) |>.symm
 obtain rfl:fn=Tryd.f10:=(Option.some.inj (Tryd.func10.symm.trans hfn)).symm
 refine ⟨by kernel_rfl,fun j t ht=>?_⟩
 have hp:Tryd.f10.params=#[26,27]:=by kernel_rfl
 rw [hp] at ht
 have hm:=Array.mem_of_getElem? ht
 simp only [List.mem_toArray,List.mem_cons,List.not_mem_nil,or_false] at hm
 rcases hm with rfl | rfl <;> exact (show Tryd.prog.wantsStandIn _=false by kernel_rfl)
theorem interpreterTerminates_card:Rows.InterpreterTerminatesUptoCardSaid:=
 Claim7.holds_tied_plain_at .later [] _ _ _ _ interpreterTerminates_said (fun _ h=>by cases h) (by kernel_rfl) (fun _ h=>by cases h) interpreterTerminatesUpto_row_tie rfl ⟨rfl,rfl⟩ (by kernel_rfl) rfl interpreterTerminates_plain (by kernel_rfl)
theorem interpreterUnusedInput_met (os:Os):laidMet Tryd.prog Rows.interpreterUnusedInputUptoRow.laid ((laidWorld os).forCall (fun _ _=>0) ⟨#[],#[.agg #[.slice none 0 0,.slice none 0 0,.slice none 0 0],.slice none 0 0,.int .u16 0],[]⟩).memory:=
 laidMet_of_run' 8 (by kernel_rfl) (by kernel_rfl)
theorem interpreterUnusedInput_reads (os:Os) {H:Type} (enc:TypeId × Value→H):∃ places,DataW.whole enc Tryd.prog ((laidWorld os).forCall (fun _ _=>0) ⟨#[],#[.agg #[.slice none 0 0,.slice none 0 0,.slice none 0 0],.slice none 0 0,.int .u16 0],[]⟩).memory Tryd.f6.params.toList Rows.interpreterUnusedInputSpec.vars false #[.agg #[.slice none 0 0,.slice none 0 0,.slice none 0 0],.slice none 0 0,.int .u16 0].toList 8=some ([.agg [.nil,.nil,.nil],.nil,.lit (.int .u16 0)],[],places):=
 ⟨[],by kernel_rfl⟩
set_option maxRecDepth 100000 in
theorem interpreterUnusedInput_lifted (os:Os) (started:os.Started) (H:Type) (enc:TypeId × Value→H) (F:Stop.Interp) :
  ReturnsInHanded {} Tryd.checked os 6 .any ((Rows.OpenSpec.upto Rows.interpreterUnusedInputSpec).preRow enc Tryd.prog Tryd.f6 Rows.interpreterUnusedInputUptoRow.domain false Rows.interpreterUnusedInputUptoRow.laid) (((Rows.OpenSpec.upto Rows.interpreterUnusedInputSpec).at F).post enc Tryd.prog Tryd.f6 false true false false):=by
 obtain ⟨places,hx⟩:=interpreterUnusedInput_reads os enc
 refine returnsInHanded_of_row (C:=Tryd.checked) (s:=Rows.OpenSpec.upto Rows.interpreterUnusedInputSpec) own started (by kernel_rfl) Tryd.func6
  (witness_row_at (enc:=enc) (C:=Tryd.checked) false (laidWorld os) #[.agg #[.slice none 0 0,.slice none 0 0,.slice none 0 0],.slice none 0 0,.int .u16 0] rfl (by kernel_rfl) (by kernel_rfl) (by kernel_rfl)
   (OpenSpec.preRow_of_cond 8 hx (by kernel_rfl) (fun k hk=>by cases hk; kernel_rfl) (by kernel_rfl) (interpreterUnusedInput_met os))) ?_
 intro W base args ds gs before hval hW _ hcond _ hL _ _
 show Calls _ _ _ _ fun e W'=>∃ v,e=.returned v∧Rows.interpreterUnusedInputSpec.post enc Tryd.prog Tryd.f6 false true false false W args v W'
 refine law_contractG bulkOK (N:=1048576) (P:=Tryd.prog) (ts:=[26,22,53,23,73,24,46,39,41,3,38,9,27,30,37]) (tb:=4) callOK (laid_wr hL) laidOut (by kernel_rfl) (by kernel_rfl) (by kernel_rfl) (by kernel_rfl) rfl (fun ds h=>?_) hval hW (small (hcond _ rfl)) fun vs hvs hbk=>?_
 ·have h:ds.length=3:=h
  match ds,h with
  | [a,b,c],_=>rfl
 ·have hvs:TyArgs Tryd.prog [26,27,37] vs:=hvs
  obtain ⟨a,b,c,rfl,ha,hb,hc⟩:=args_3v hvs
  obtain ⟨p,rfl,ok⟩:=arg_prog ha
  obtain ⟨ls,rfl,hl,hw⟩:=arg_lists (e:=30) (u:=38) (by kernel_rfl) (by kernel_rfl) (by kernel_rfl) hb
  have hbp:p.v.bulk ≤ 1048576:=by rw [V.bulks] at hbk; omega
  obtain ⟨n,rfl,hn⟩:=arg_u16 (by kernel_rfl) hc
  exact unused30 ok hbp hl hw hn fun h'=>rfl
theorem interpreterUnusedInput_said:Rows.InterpreterUnusedInputUptoSaid:=
 OpenClaim.holds_of_cond 6 Tryd.f6 rfl rfl rfl rfl rfl rfl rfl ⟨rfl,rfl,rfl,rfl,rfl⟩ rfl rfl rfl rfl rfl (by kernel_rfl) Tryd.func6 (by kernel_rfl)
  (of_decide_eq_true (by kernel_rfl)) (by unfold Func.isWrapper; first | (rw [if_pos (by decide +kernel)]; kernel_rfl) | (rw [if_neg (by decide +kernel)]; exact ⟨rfl,rfl⟩))
  (fun os started H enc _ F=>by rw [OpenClaim.pre_eq_preRow]; exact interpreterUnusedInput_lifted os started H enc F)
theorem interpreterUnusedInput_plain (f : FuncId) (fn : Func) (hf : Tryd.pinned.checked.prog.funcNamed "privity/privitylaw30.InterpreterUnusedInput" = some f) (hfn : Tryd.pinned.checked.prog.funcs[f]? = some fn) :
  true=Tryd.pinned.checked.prog.looks []∧∀ (j:Nat) t,fn.params[j]?=some t→Tryd.pinned.checked.prog.wantsStandIn t=false:=by
 obtain rfl : f = 6 := Option.some.inj ((show Tryd.prog.funcNamed "privity/privitylaw30.InterpreterUnusedInput" = some 6 by kernel_rfl).symm.trans hf) |>.symm
 obtain rfl:fn=Tryd.f6:=(Option.some.inj (Tryd.func6.symm.trans hfn)).symm
 refine ⟨by kernel_rfl,fun j t ht=>?_⟩
 have hp:Tryd.f6.params=#[26,27,37]:=by kernel_rfl
 rw [hp] at ht
 have hm:=Array.mem_of_getElem? ht
 simp only [List.mem_toArray,List.mem_cons,List.not_mem_nil,or_false] at hm
 rcases hm with rfl | rfl | rfl <;> exact (show Tryd.prog.wantsStandIn _=false by kernel_rfl)
theorem interpreterUnusedInput_card:Rows.InterpreterUnusedInputUptoCardSaid:=
 Claim7.holds_tied_plain_at .later [] _ _ _ _ interpreterUnusedInput_said (fun _ h=>by cases h) (by kernel_rfl) (fun _ h=>by cases h) interpreterUnusedInputUpto_row_tie rfl ⟨rfl,rfl⟩ (by kernel_rfl) rfl interpreterUnusedInput_plain (by kernel_rfl)
theorem parts_5 {P:Program} {f0 f1 f2 f3 f4:Field} {parts:List (List V)} (hl:parts.length=(#[f0,f1,f2,f3,f4]:Array Field).size) (hp:∀ (i:Nat) (f:Field) (cs:List V),(#[f0,f1,f2,f3,f4]:Array Field)[i]?=some f→parts[i]?=some cs→Ty P f.type cs) :
  ∃ a b c d e,parts=[a,b,c,d,e]∧Ty P f0.type a∧Ty P f1.type b∧Ty P f2.type c∧Ty P f3.type d∧Ty P f4.type e:=by
 have hl:parts.length=5:=hl
 match parts,hl with
 | [a,b,c,d,e],_=>exact ⟨a,b,c,d,e,rfl,hp 0 f0 a rfl rfl,hp 1 f1 b rfl rfl,hp 2 f2 c rfl rfl,hp 3 f3 d rfl rfl,hp 4 f4 e rfl rfl⟩
theorem ty_prog {cs:List V} (hc:Ty Tryd.prog 26 cs):∃ p:Prg,cs=p.cells∧POk p:=by
 obtain ⟨p,hp,ok⟩:=arg_prog (v:=.agg cs) ⟨true,cs,agg_struct Tryd.underlying26,rfl,hc⟩
 exact ⟨p,V.agg.inj hp,ok⟩
theorem ty_exp {cs:List V} (hc:Ty Tryd.prog 41 cs):∃ e:Exp,cs=e.v.cells∧EOk e:=by
 obtain ⟨e,he,ok⟩:=arg_expr (v:=.agg cs) ⟨true,cs,agg_struct Tryd.underlying41,rfl,hc⟩
 rw [← Exp.v_ag] at he
 exact ⟨e,V.agg.inj he,ok⟩
theorem ty_lists {cs:List V} (hc:Ty Tryd.prog 27 cs):∃ ls:List (List Nat),cs=[LV ls]∧ls.length ≤ maxLen∧WordsOk ls:=by
 obtain ⟨ag,css,ha,rfl,hc1,hl⟩:=ty_slice (e:=30) (by kernel_rfl) hc
 rw [agg_slice (e:=38) (by kernel_rfl)] at ha; cases ha
 obtain ⟨ls,h1,h2,h3⟩:=map_lists (e:=38) (by kernel_rfl) (by kernel_rfl) hc1
 exact ⟨ls,by rw [h1]; rfl,by omega,h3⟩
theorem arg_cond {v:V} (h:TyArg Tryd.prog 57 v):∃ (p:Prg) (ls:List (List Nat)) (c a b:Exp),v=condV p ls c a b∧POk p∧EOk c∧EOk a∧EOk b∧ls.length ≤ maxLen∧WordsOk ls:=by
 obtain ⟨ag,cs,ha,rfl,hc⟩:=h
 have hP:=Tryd.underlying57
 rw [agg_struct hP] at ha
 cases ha
 obtain ⟨parts,rfl,hl,hp⟩:=ty_struct hP hc
 obtain ⟨c0,c1,c2,c3,c4,rfl,g0,g1,g2,g3,g4⟩:=parts_5 hl hp
 obtain ⟨p,rfl,ok⟩:=ty_prog g0
 obtain ⟨ls,rfl,h1,h2⟩:=ty_lists g1
 obtain ⟨c,rfl,okc⟩:=ty_exp g2
 obtain ⟨a,rfl,oka⟩:=ty_exp g3
 obtain ⟨b,rfl,okb⟩:=ty_exp g4
 refine ⟨p,ls,c,a,b,?_,ok,okc,oka,okb,h1,h2⟩
 show V.agg _=V.agg _
 refine congrArg V.agg ?_
 simp [Prg.cells]
theorem bulks_app2:∀ {a b:List V},V.bulks (a ++ b)=V.bulks a + V.bulks b
 | [],b=>by rw [List.nil_append,V.bulks,Nat.zero_add]
 | x :: a,b=>by rw [List.cons_append,V.bulks,V.bulks,bulks_app2]; omega
theorem cond_bulk {p:Prg} {ls:List (List Nat)} {c a b:Exp} (h:(condV p ls c a b).bulk ≤ 1048576):p.v.bulk ≤ 1048576∧c.v.bulk ≤ 1048576∧a.v.bulk ≤ 1048576∧b.v.bulk ≤ 1048576:=by
 have e:∀ x:Exp,x.v.bulk=V.bulks x.v.cells + 1:=fun x=>by
  conv=>lhs; rw [← Exp.v_ag]
  rw [V.bulk]
 unfold condV at h
 rw [V.bulk,bulks_app2,bulks_app2,bulks_app2] at h
 have e0:p.v.bulk=V.bulks p.cells + 1:=by rw [Prg.v,V.bulk]
 have e1:V.bulks [.vec (p.ins.map InD.v) .any,.vec (p.arrays.map ArD.v) .any,.vec (p.body.map Stm.v) .any,LV ls]=V.bulks p.cells + (LV ls).bulk:=by simp only [Prg.cells,V.bulks]; omega
 rw [e1] at h
 rw [e,e,e,e0]
 omega
theorem interpreterConditional_met (os:Os):laidMet Tryd.prog Rows.interpreterConditionalUptoRow.laid ((laidWorld os).forCall (fun _ _=>0) ⟨#[],#[.agg #[.slice none 0 0,.slice none 0 0,.slice none 0 0,.slice none 0 0,.int .i64 0,.int .i64 0,.int .u64 0,.string ⟨#[]⟩,.slice none 0 0,.int .i64 0,.int .i64 0,.int .u64 0,.string ⟨#[]⟩,.slice none 0 0,.int .i64 0,.int .i64 0,.int .u64 0,.string ⟨#[]⟩,.slice none 0 0]],[]⟩).memory:=
 laidMet_of_run' 8 (by kernel_rfl) (by kernel_rfl)
theorem interpreterConditional_reads (os:Os) {H:Type} (enc:TypeId × Value→H):∃ places,DataW.whole enc Tryd.prog ((laidWorld os).forCall (fun _ _=>0) ⟨#[],#[.agg #[.slice none 0 0,.slice none 0 0,.slice none 0 0,.slice none 0 0,.int .i64 0,.int .i64 0,.int .u64 0,.string ⟨#[]⟩,.slice none 0 0,.int .i64 0,.int .i64 0,.int .u64 0,.string ⟨#[]⟩,.slice none 0 0,.int .i64 0,.int .i64 0,.int .u64 0,.string ⟨#[]⟩,.slice none 0 0]],[]⟩).memory Tryd.f8.params.toList Rows.interpreterConditionalSpec.vars false #[.agg #[.slice none 0 0,.slice none 0 0,.slice none 0 0,.slice none 0 0,.int .i64 0,.int .i64 0,.int .u64 0,.string ⟨#[]⟩,.slice none 0 0,.int .i64 0,.int .i64 0,.int .u64 0,.string ⟨#[]⟩,.slice none 0 0,.int .i64 0,.int .i64 0,.int .u64 0,.string ⟨#[]⟩,.slice none 0 0]].toList 8=some ([.agg [.agg [.nil,.nil,.nil],.nil,.agg [.lit (.int .i64 0),.lit (.int .i64 0),.lit (.int .u64 0),.lit (.string []),.nil],.agg [.lit (.int .i64 0),.lit (.int .i64 0),.lit (.int .u64 0),.lit (.string []),.nil],.agg [.lit (.int .i64 0),.lit (.int .i64 0),.lit (.int .u64 0),.lit (.string []),.nil]]],[],places):=
 ⟨[],by kernel_rfl⟩
set_option maxRecDepth 100000 in
theorem interpreterConditional_lifted (os:Os) (started:os.Started) (H:Type) (enc:TypeId × Value→H) (F:Stop.Interp) :
  ReturnsInHanded {} Tryd.checked os 8 .any ((Rows.OpenSpec.upto Rows.interpreterConditionalSpec).preRow enc Tryd.prog Tryd.f8 Rows.interpreterConditionalUptoRow.domain false Rows.interpreterConditionalUptoRow.laid) (((Rows.OpenSpec.upto Rows.interpreterConditionalSpec).at F).post enc Tryd.prog Tryd.f8 false true false false):=by
 obtain ⟨places,hx⟩:=interpreterConditional_reads os enc
 refine returnsInHanded_of_row (C:=Tryd.checked) (s:=Rows.OpenSpec.upto Rows.interpreterConditionalSpec) own started (by kernel_rfl) Tryd.func8
  (witness_row_at (enc:=enc) (C:=Tryd.checked) false (laidWorld os) #[.agg #[.slice none 0 0,.slice none 0 0,.slice none 0 0,.slice none 0 0,.int .i64 0,.int .i64 0,.int .u64 0,.string ⟨#[]⟩,.slice none 0 0,.int .i64 0,.int .i64 0,.int .u64 0,.string ⟨#[]⟩,.slice none 0 0,.int .i64 0,.int .i64 0,.int .u64 0,.string ⟨#[]⟩,.slice none 0 0]] rfl (by kernel_rfl) (by kernel_rfl) (by kernel_rfl)
   (OpenSpec.preRow_of_cond 8 hx (by kernel_rfl) (fun k hk=>by cases hk; kernel_rfl) (by kernel_rfl) (interpreterConditional_met os))) ?_
 intro W base args ds gs before hval hW _ hcond _ hL _ _
 show Calls _ _ _ _ fun e W'=>∃ v,e=.returned v∧Rows.interpreterConditionalSpec.post enc Tryd.prog Tryd.f8 false true false false W args v W'
 refine law_contractG bulkOK (N:=1048576) (P:=Tryd.prog) (ts:=[57,26,22,53,23,73,24,46,39,41,3,38,9,27,30]) (tb:=4) callOK (laid_wr hL) laidOut (by kernel_rfl) (by kernel_rfl) (by kernel_rfl) (by kernel_rfl) rfl (fun ds h=>?_) hval hW (small (hcond _ rfl)) fun vs hvs hbk=>?_
 ·have h:ds.length=1:=h
  match ds,h with
  | [a],_=>rfl
 ·have hvs:TyArgs Tryd.prog [57] vs:=hvs
  obtain ⟨a,rfl,ha⟩:=args_1v hvs
  obtain ⟨p,ls,c,x,y,rfl,ok,okc,okx,oky,hl,hw⟩:=arg_cond ha
  rw [bulks_one] at hbk
  obtain ⟨b1,b2,b3,b4⟩:=cond_bulk hbk
  exact cond30 ok okc okx oky b1 b2 b3 b4 hl hw fun h'=>rfl
theorem interpreterConditional_said:Rows.InterpreterConditionalUptoSaid:=
 OpenClaim.holds_of_cond 8 Tryd.f8 rfl rfl rfl rfl rfl rfl rfl ⟨rfl,rfl,rfl,rfl,rfl⟩ rfl rfl rfl rfl rfl (by kernel_rfl) Tryd.func8 (by kernel_rfl)
  (of_decide_eq_true (by kernel_rfl)) (by unfold Func.isWrapper; first | (rw [if_pos (by decide +kernel)]; kernel_rfl) | (rw [if_neg (by decide +kernel)]; exact ⟨rfl,rfl⟩))
  (fun os started H enc _ F=>by rw [OpenClaim.pre_eq_preRow]; exact interpreterConditional_lifted os started H enc F)
theorem interpreterConditional_plain (f : FuncId) (fn : Func) (hf : Tryd.pinned.checked.prog.funcNamed "privity/privitylaw30.InterpreterConditional" = some f) (hfn : Tryd.pinned.checked.prog.funcs[f]? = some fn) :
  true=Tryd.pinned.checked.prog.looks []∧∀ (j:Nat) t,fn.params[j]?=some t→Tryd.pinned.checked.prog.wantsStandIn t=false:=by
 obtain rfl : f = 8 := Option.some.inj ((show Tryd.prog.funcNamed "privity/privitylaw30.InterpreterConditional" = some 8 by kernel_rfl).symm.trans hf) |>.symm
 obtain rfl:fn=Tryd.f8:=(Option.some.inj (Tryd.func8.symm.trans hfn)).symm
 refine ⟨by kernel_rfl,fun j t ht=>?_⟩
 have hp:Tryd.f8.params=#[57]:=by kernel_rfl
 rw [hp] at ht
 have hm:=Array.mem_of_getElem? ht
 simp only [List.mem_toArray,List.mem_cons,List.not_mem_nil,or_false] at hm
 rcases hm with rfl <;> exact (show Tryd.prog.wantsStandIn _=false by kernel_rfl)
theorem interpreterConditional_card:Rows.InterpreterConditionalUptoCardSaid:=
 Claim7.holds_tied_plain_at .later [] _ _ _ _ interpreterConditional_said (fun _ h=>by cases h) (by kernel_rfl) (fun _ h=>by cases h) interpreterConditionalUpto_row_tie rfl ⟨rfl,rfl⟩ (by kernel_rfl) rfl interpreterConditional_plain (by kernel_rfl)
end Go.Proofs.YtljoifdccjcidaaDoor
