/- The statements InterpreterOperators, InterpreterArithmeticLaws, InterpreterLoop, in their second form: for every input of bulk at most 1048576 the call returns true, and each argument reads as it did; and their cards. -/
import Derived.Test.YtljoifdccjcidaaDoorRows
import Derived.Test.YtljoifdccjcidaaDoorCards
import Derived.Test.YtljoifdccjcidaaDoorTie
import Derived.Deep.DeepHandedRow
import Derived.LaidLaws
import Derived.WalkKit
import Derived.ProofKit
import Derived.Test.YtljoifdccjcidaaDoorX7
import Derived.OpenShut
import Derived.JoinedCond
import Derived.Test.YtljoifdccjcidaaDoorX9
import Derived.Test.YtljoifdccjcidaaDoorX8
set_option linter.unusedVariables false
set_option linter.unusedSimpArgs false
namespace Go.Proofs.YtljoifdccjcidaaDoor
open Go.Ab Go.Ab.YtljoifdccjcidaaDoor
theorem own:ownKnob Tryd.prog.godebug=none:=by kernel_rfl
theorem laidOut:laidOutB Tryd.prog=true:=by kernel_rfl
theorem bulkOK {H:Type}:BulkOK (H':=H) Rows.uptoBulk:=by
 have hs:∀ l:List (DataW H),(l.map Rows.uptoBulk).sum ≤ Rows.uptoBulkAll l:=fun l=>by
  induction l with
  | nil=>exact Nat.le_refl _
  | cons x l ih=>rw [List.map_cons,List.sum_cons,Rows.uptoBulkAll]; omega
 refine ⟨fun l=>?_,fun l=>?_,?_,fun e s=>?_,fun e=>?_⟩
 ·rw [Rows.uptoBulk]; exact Nat.le_refl _
 ·cases l <;> simp [Rows.uptoBulk]
 ·rw [Rows.uptoBulk]; exact Nat.le_refl _
 ·have:=hs e
  rw [Rows.uptoBulk]; omega
 ·have:=hs e
  rw [Rows.uptoBulk]; omega
theorem small {H:Type} {ds gs:List (DataW H)} (hk:Rows.uptoSmall H (ds ++ gs)=true):(ds.map Rows.uptoBulk).sum ≤ 1048576:=by
 have h:=of_decide_eq_true hk
 have hs:∀ l:List (DataW H),(l.map Rows.uptoBulk).sum ≤ Rows.uptoBulkAll l:=fun l=>by
  induction l with
  | nil=>exact Nat.le_refl _
  | cons x l ih=>rw [List.map_cons,List.sum_cons,Rows.uptoBulkAll]; omega
 have h1:=hs (ds ++ gs)
 rw [List.map_append,List.sum_append] at h1
 omega
noncomputable def laidWorld (os:Os):World:={ World.holding Tryd.prog os ⟨#[],#[],[]⟩ with heap:=((World.holding Tryd.prog os ⟨#[],#[],[]⟩).heap.modify 0 fun
   | .cells _ t frozen=>.cells #[.int .i64 2,.int .i64 0,.bool false,.int .u64 0] t frozen
   | o=>o) }
theorem interpreterOperators_met (os:Os):laidMet Tryd.prog Rows.interpreterOperatorsUptoRow.laid ((laidWorld os).forCall (fun _ _=>0) ⟨#[],#[.int .u16 0,.int .u16 0],[]⟩).memory:=
 laidMet_of_run' 8 (by kernel_rfl) (by kernel_rfl)
theorem interpreterOperators_reads (os:Os) {H:Type} (enc:TypeId × Value→H):∃ places,DataW.whole enc Tryd.prog ((laidWorld os).forCall (fun _ _=>0) ⟨#[],#[.int .u16 0,.int .u16 0],[]⟩).memory Tryd.f4.params.toList Rows.interpreterOperatorsSpec.vars false #[.int .u16 0,.int .u16 0].toList 8=some ([.lit (.int .u16 0),.lit (.int .u16 0)],[],places):=
 ⟨[],by kernel_rfl⟩
set_option maxRecDepth 100000 in
theorem interpreterOperators_lifted (os:Os) (started:os.Started) (H:Type) (enc:TypeId × Value→H) (F:Stop.Interp) :
  ReturnsInHanded {} Tryd.checked os 4 .any ((Rows.OpenSpec.upto Rows.interpreterOperatorsSpec).preRow enc Tryd.prog Tryd.f4 Rows.interpreterOperatorsUptoRow.domain false Rows.interpreterOperatorsUptoRow.laid) (((Rows.OpenSpec.upto Rows.interpreterOperatorsSpec).at F).post enc Tryd.prog Tryd.f4 false true false false):=by
 obtain ⟨places,hx⟩:=interpreterOperators_reads os enc
 refine returnsInHanded_of_row (C:=Tryd.checked) (s:=Rows.OpenSpec.upto Rows.interpreterOperatorsSpec) own started (by kernel_rfl) Tryd.func4
  (witness_row_at (enc:=enc) (C:=Tryd.checked) false (laidWorld os) #[.int .u16 0,.int .u16 0] rfl (by kernel_rfl) (by kernel_rfl) (by kernel_rfl)
   (OpenSpec.preRow_of_cond 8 hx (by kernel_rfl) (fun k hk=>by cases hk; kernel_rfl) (by kernel_rfl) (interpreterOperators_met os))) ?_
 intro W base args ds gs before hval hW _ hcond _ hL _ _
 show Calls _ _ _ _ fun e W'=>∃ v,e=.returned v∧Rows.interpreterOperatorsSpec.post enc Tryd.prog Tryd.f4 false true false false W args v W'
 refine law_contractG bulkOK (N:=1048576) (P:=Tryd.prog) (ts:=[37]) (tb:=4) callOK (laid_wr hL) laidOut (by kernel_rfl) (by kernel_rfl) (by kernel_rfl) (by kernel_rfl) rfl (fun ds h=>?_) hval hW (small (hcond _ rfl)) fun vs hvs hbk=>?_
 ·have h:ds.length=2:=h
  match ds,h with
  | [a,b],_=>rfl
 ·have hvs:TyArgs Tryd.prog [37,37] vs:=hvs
  obtain ⟨a,b,rfl,ha,hb⟩:=args_2v hvs
  obtain ⟨na,rfl,qa⟩:=arg_u16 (by kernel_rfl) ha
  obtain ⟨nb,rfl,qb⟩:=arg_u16 (by kernel_rfl) hb
  exact operators30 qa qb fun h'=>rfl
theorem interpreterOperators_said:Rows.InterpreterOperatorsUptoSaid:=
 OpenClaim.holds_of_cond 4 Tryd.f4 rfl rfl rfl rfl rfl rfl rfl ⟨rfl,rfl,rfl,rfl,rfl⟩ rfl rfl rfl rfl rfl (by kernel_rfl) Tryd.func4 (by kernel_rfl)
  (of_decide_eq_true (by kernel_rfl)) (by unfold Func.isWrapper; first | (rw [if_pos (by decide +kernel)]; kernel_rfl) | (rw [if_neg (by decide +kernel)]; exact ⟨rfl,rfl⟩))
  (fun os started H enc _ F=>by rw [OpenClaim.pre_eq_preRow]; exact interpreterOperators_lifted os started H enc F)
theorem interpreterOperators_plain (f : FuncId) (fn : Func) (hf : Tryd.pinned.checked.prog.funcNamed "privity/privitylaw30.InterpreterOperators" = some f) (hfn : Tryd.pinned.checked.prog.funcs[f]? = some fn) :
  true=Tryd.pinned.checked.prog.looks []∧∀ (j:Nat) t,fn.params[j]?=some t→Tryd.pinned.checked.prog.wantsStandIn t=false:=by
 obtain rfl : f = 4 := Option.some.inj ((show Tryd.prog.funcNamed "privity/privitylaw30.InterpreterOperators" = some 4 by kernel_rfl).symm.trans hf) |>.symm
 obtain rfl:fn=Tryd.f4:=(Option.some.inj (Tryd.func4.symm.trans hfn)).symm
 refine ⟨by kernel_rfl,fun j t ht=>?_⟩
 have hp:Tryd.f4.params=#[37,37]:=by kernel_rfl
 rw [hp] at ht
 have hm:=Array.mem_of_getElem? ht
 simp only [List.mem_toArray,List.mem_cons,List.not_mem_nil,or_false] at hm
 rcases hm with rfl | rfl <;> exact (show Tryd.prog.wantsStandIn _=false by kernel_rfl)
theorem interpreterOperators_card:Rows.InterpreterOperatorsUptoCardSaid:=
 Claim7.holds_tied_plain_at .later [] _ _ _ _ interpreterOperators_said (fun _ h=>by cases h) (by kernel_rfl) (fun _ h=>by cases h) interpreterOperatorsUpto_row_tie rfl ⟨rfl,rfl⟩ (by kernel_rfl) rfl interpreterOperators_plain (by kernel_rfl)
theorem interpreterArithmeticLaws_met (os:Os):laidMet Tryd.prog Rows.interpreterArithmeticLawsUptoRow.laid ((laidWorld os).forCall (fun _ _=>0) ⟨#[],#[.int .u16 0,.int .u16 0,.int .u16 0],[]⟩).memory:=
 laidMet_of_run' 8 (by kernel_rfl) (by kernel_rfl)
theorem interpreterArithmeticLaws_reads (os:Os) {H:Type} (enc:TypeId × Value→H):∃ places,DataW.whole enc Tryd.prog ((laidWorld os).forCall (fun _ _=>0) ⟨#[],#[.int .u16 0,.int .u16 0,.int .u16 0],[]⟩).memory Tryd.f9.params.toList Rows.interpreterArithmeticLawsSpec.vars false #[.int .u16 0,.int .u16 0,.int .u16 0].toList 8=some ([.lit (.int .u16 0),.lit (.int .u16 0),.lit (.int .u16 0)],[],places):=
 ⟨[],by kernel_rfl⟩
set_option maxRecDepth 100000 in
theorem interpreterArithmeticLaws_lifted (os:Os) (started:os.Started) (H:Type) (enc:TypeId × Value→H) (F:Stop.Interp) :
  ReturnsInHanded {} Tryd.checked os 9 .any ((Rows.OpenSpec.upto Rows.interpreterArithmeticLawsSpec).preRow enc Tryd.prog Tryd.f9 Rows.interpreterArithmeticLawsUptoRow.domain false Rows.interpreterArithmeticLawsUptoRow.laid) (((Rows.OpenSpec.upto Rows.interpreterArithmeticLawsSpec).at F).post enc Tryd.prog Tryd.f9 false true false false):=by
 obtain ⟨places,hx⟩:=interpreterArithmeticLaws_reads os enc
 refine returnsInHanded_of_row (C:=Tryd.checked) (s:=Rows.OpenSpec.upto Rows.interpreterArithmeticLawsSpec) own started (by kernel_rfl) Tryd.func9
  (witness_row_at (enc:=enc) (C:=Tryd.checked) false (laidWorld os) #[.int .u16 0,.int .u16 0,.int .u16 0] rfl (by kernel_rfl) (by kernel_rfl) (by kernel_rfl)
   (OpenSpec.preRow_of_cond 8 hx (by kernel_rfl) (fun k hk=>by cases hk; kernel_rfl) (by kernel_rfl) (interpreterArithmeticLaws_met os))) ?_
 intro W base args ds gs before hval hW _ hcond _ hL _ _
 show Calls _ _ _ _ fun e W'=>∃ v,e=.returned v∧Rows.interpreterArithmeticLawsSpec.post enc Tryd.prog Tryd.f9 false true false false W args v W'
 refine law_contractG bulkOK (N:=1048576) (P:=Tryd.prog) (ts:=[37]) (tb:=4) callOK (laid_wr hL) laidOut (by kernel_rfl) (by kernel_rfl) (by kernel_rfl) (by kernel_rfl) rfl (fun ds h=>?_) hval hW (small (hcond _ rfl)) fun vs hvs hbk=>?_
 ·have h:ds.length=3:=h
  match ds,h with
  | [a,b,c],_=>rfl
 ·have hvs:TyArgs Tryd.prog [37,37,37] vs:=hvs
  obtain ⟨a,b,c,rfl,ha,hb,hc⟩:=args_3v hvs
  obtain ⟨na,rfl,qa⟩:=arg_u16 (by kernel_rfl) ha
  obtain ⟨nb,rfl,qb⟩:=arg_u16 (by kernel_rfl) hb
  obtain ⟨nc,rfl,qc⟩:=arg_u16 (by kernel_rfl) hc
  exact arith30 qa qb qc fun h'=>rfl
theorem interpreterArithmeticLaws_said:Rows.InterpreterArithmeticLawsUptoSaid:=
 OpenClaim.holds_of_cond 9 Tryd.f9 rfl rfl rfl rfl rfl rfl rfl ⟨rfl,rfl,rfl,rfl,rfl⟩ rfl rfl rfl rfl rfl (by kernel_rfl) Tryd.func9 (by kernel_rfl)
  (of_decide_eq_true (by kernel_rfl)) (by unfold Func.isWrapper; first | (rw [if_pos (by decide +kernel)]; kernel_rfl) | (rw [if_neg (by decide +kernel)]; exact ⟨rfl,rfl⟩))
  (fun os started H enc _ F=>by rw [OpenClaim.pre_eq_preRow]; exact interpreterArithmeticLaws_lifted os started H enc F)
theorem interpreterArithmeticLaws_plain (f : FuncId) (fn : Func) (hf : Tryd.pinned.checked.prog.funcNamed "privity/privitylaw30.InterpreterArithmeticLaws" = some f) (hfn : Tryd.pinned.checked.prog.funcs[f]? = some fn) :
  true=Tryd.pinned.checked.prog.looks []∧∀ (j:Nat) t,fn.params[j]?=some t→Tryd.pinned.checked.prog.wantsStandIn t=false:=by
 obtain rfl : f = 9 := Option.some.inj ((show Tryd.prog.funcNamed "privity/privitylaw30.InterpreterArithmeticLaws" = some 9 by kernel_rfl).symm.trans hf) |>.symm
 obtain rfl:fn=Tryd.f9:=(Option.some.inj (Tryd.func9.symm.trans hfn)).symm
 refine ⟨by kernel_rfl,fun j t ht=>?_⟩
 have hp:Tryd.f9.params=#[37,37,37]:=by kernel_rfl
 rw [hp] at ht
 have hm:=Array.mem_of_getElem? ht
 simp only [List.mem_toArray,List.mem_cons,List.not_mem_nil,or_false] at hm
 rcases hm with rfl | rfl | rfl <;> exact (show Tryd.prog.wantsStandIn _=false by kernel_rfl)
theorem interpreterArithmeticLaws_card:Rows.InterpreterArithmeticLawsUptoCardSaid:=
 Claim7.holds_tied_plain_at .later [] _ _ _ _ interpreterArithmeticLaws_said (fun _ h=>by cases h) (by kernel_rfl) (fun _ h=>by cases h) interpreterArithmeticLawsUpto_row_tie rfl ⟨rfl,rfl⟩ (by kernel_rfl) rfl interpreterArithmeticLaws_plain (by kernel_rfl)
theorem interpreterLoop_met (os:Os):laidMet Tryd.prog Rows.interpreterLoopUptoRow.laid ((laidWorld os).forCall (fun _ _=>0) ⟨#[],#[.int .u8 0,.int .u8 0,.int .u16 0],[]⟩).memory:=
 laidMet_of_run' 8 (by kernel_rfl) (by kernel_rfl)
theorem interpreterLoop_reads (os:Os) {H:Type} (enc:TypeId × Value→H):∃ places,DataW.whole enc Tryd.prog ((laidWorld os).forCall (fun _ _=>0) ⟨#[],#[.int .u8 0,.int .u8 0,.int .u16 0],[]⟩).memory Tryd.f7.params.toList Rows.interpreterLoopSpec.vars false #[.int .u8 0,.int .u8 0,.int .u16 0].toList 8=some ([.lit (.int .u8 0),.lit (.int .u8 0),.lit (.int .u16 0)],[],places):=
 ⟨[],by kernel_rfl⟩
set_option maxRecDepth 100000 in
theorem interpreterLoop_lifted (os:Os) (started:os.Started) (H:Type) (enc:TypeId × Value→H) (F:Stop.Interp) :
  ReturnsInHanded {} Tryd.checked os 7 .any ((Rows.OpenSpec.upto Rows.interpreterLoopSpec).preRow enc Tryd.prog Tryd.f7 Rows.interpreterLoopUptoRow.domain false Rows.interpreterLoopUptoRow.laid) (((Rows.OpenSpec.upto Rows.interpreterLoopSpec).at F).post enc Tryd.prog Tryd.f7 false true false false):=by
 obtain ⟨places,hx⟩:=interpreterLoop_reads os enc
 refine returnsInHanded_of_row (C:=Tryd.checked) (s:=Rows.OpenSpec.upto Rows.interpreterLoopSpec) own started (by kernel_rfl) Tryd.func7
  (witness_row_at (enc:=enc) (C:=Tryd.checked) false (laidWorld os) #[.int .u8 0,.int .u8 0,.int .u16 0] rfl (by kernel_rfl) (by kernel_rfl) (by kernel_rfl)
   (OpenSpec.preRow_of_cond 8 hx (by kernel_rfl) (fun k hk=>by cases hk; kernel_rfl) (by kernel_rfl) (interpreterLoop_met os))) ?_
 intro W base args ds gs before hval hW _ hcond _ hL _ _
 show Calls _ _ _ _ fun e W'=>∃ v,e=.returned v∧Rows.interpreterLoopSpec.post enc Tryd.prog Tryd.f7 false true false false W args v W'
 refine law_contractG bulkOK (N:=1048576) (P:=Tryd.prog) (ts:=[37,5]) (tb:=4) callOK (laid_wr hL) laidOut (by kernel_rfl) (by kernel_rfl) (by kernel_rfl) (by kernel_rfl) rfl (fun ds h=>?_) hval hW (small (hcond _ rfl)) fun vs hvs hbk=>?_
 ·have h:ds.length=3:=h
  match ds,h with
  | [a,b,c],_=>rfl
 ·have hvs:TyArgs Tryd.prog [5,5,37] vs:=hvs
  obtain ⟨a,b,c,rfl,ha,hb,hc⟩:=args_3v hvs
  obtain ⟨na,rfl,qa⟩:=arg_u8 (by kernel_rfl) ha
  obtain ⟨nb,rfl,qb⟩:=arg_u8 (by kernel_rfl) hb
  obtain ⟨nc,rfl,qc⟩:=arg_u16 (by kernel_rfl) hc
  exact loop30 qa qb qc fun h'=>rfl
theorem interpreterLoop_said:Rows.InterpreterLoopUptoSaid:=
 OpenClaim.holds_of_cond 7 Tryd.f7 rfl rfl rfl rfl rfl rfl rfl ⟨rfl,rfl,rfl,rfl,rfl⟩ rfl rfl rfl rfl rfl (by kernel_rfl) Tryd.func7 (by kernel_rfl)
  (of_decide_eq_true (by kernel_rfl)) (by unfold Func.isWrapper; first | (rw [if_pos (by decide +kernel)]; kernel_rfl) | (rw [if_neg (by decide +kernel)]; exact ⟨rfl,rfl⟩))
  (fun os started H enc _ F=>by rw [OpenClaim.pre_eq_preRow]; exact interpreterLoop_lifted os started H enc F)
theorem interpreterLoop_plain (f : FuncId) (fn : Func) (hf : Tryd.pinned.checked.prog.funcNamed "privity/privitylaw30.InterpreterLoop" = some f) (hfn : Tryd.pinned.checked.prog.funcs[f]? = some fn) :
  true=Tryd.pinned.checked.prog.looks []∧∀ (j:Nat) t,fn.params[j]?=some t→Tryd.pinned.checked.prog.wantsStandIn t=false:=by
 obtain rfl : f = 7 := Option.some.inj ((show Tryd.prog.funcNamed "privity/privitylaw30.InterpreterLoop" = some 7 by kernel_rfl).symm.trans hf) |>.symm
 obtain rfl:fn=Tryd.f7:=(Option.some.inj (Tryd.func7.symm.trans hfn)).symm
 refine ⟨by kernel_rfl,fun j t ht=>?_⟩
 have hp:Tryd.f7.params=#[5,5,37]:=by kernel_rfl
 rw [hp] at ht
 have hm:=Array.mem_of_getElem? ht
 simp only [List.mem_toArray,List.mem_cons,List.not_mem_nil,or_false] at hm
 rcases hm with rfl | rfl | rfl <;> exact (show Tryd.prog.wantsStandIn _=false by kernel_rfl)
theorem interpreterLoop_card:Rows.InterpreterLoopUptoCardSaid:=
 Claim7.holds_tied_plain_at .later [] _ _ _ _ interpreterLoop_said (fun _ h=>by cases h) (by kernel_rfl) (fun _ h=>by cases h) interpreterLoopUpto_row_tie rfl ⟨rfl,rfl⟩ (by kernel_rfl) rfl interpreterLoop_plain (by kernel_rfl)
end Go.Proofs.YtljoifdccjcidaaDoor
