/- The statement ConstfoldPreservesMeaning, in its second form: for every input of bulk at most 1048576 the call returns true, and each argument reads as it did; and its card. -/
import Derived.Test.YtemlhjlceeiflaaDoorRows
import Derived.Test.YtemlhjlceeiflaaDoorCards
import Derived.Test.YtemlhjlceeiflaaDoorTie
import Derived.Deep.DeepHandedRow
import Derived.LaidLaws
import Derived.WalkKit
import Derived.ProofKit
import Derived.Test.YtemlhjlceeiflaaDoorY7
import Derived.OpenShut
import Derived.JoinedCond
import Derived.Test.YtemlhjlceeiflaaDoorY10
import Derived.Test.YtemlhjlceeiflaaDoorY9
set_option linter.unusedVariables false
set_option linter.unusedSimpArgs false
namespace Go.Proofs.YtemlhjlceeiflaaDoor
open Go.Ab Go.Ab.YtemlhjlceeiflaaDoor
theorem own:ownKnob Tryd.prog.godebug=none:=by kernel_rfl
theorem laidOut:laidOutB Tryd.prog=true:=by kernel_rfl
theorem bulkOK {H:Type}:BulkOK (H':=H) Rows.uptoBulk:=by
 have hs:∀ l:List (DataW H),(l.map Rows.uptoBulk).sum ≤ Rows.uptoBulkAll l:=fun l=>by
  induction l with
  | nil=>exact Nat.le_refl _
  | cons x l ih=>rw [List.map_cons,List.sum_cons,Rows.uptoBulkAll]; omega
 refine ⟨fun l=>?_,fun l=>?_,?_,fun e s=>?_,fun e=>?_⟩
 ·rw [Rows.uptoBulk]; exact Nat.le_refl _
 ·cases l <;> simp [Rows.uptoBulk]
 ·rw [Rows.uptoBulk]; exact Nat.le_refl _
 ·have:=hs e
  rw [Rows.uptoBulk]; omega
 ·have:=hs e
  rw [Rows.uptoBulk]; omega
theorem small {H:Type} {ds gs:List (DataW H)} (hk:Rows.uptoSmall H (ds ++ gs)=true):(ds.map Rows.uptoBulk).sum ≤ 1048576:=by
 have h:=of_decide_eq_true hk
 have hs:∀ l:List (DataW H),(l.map Rows.uptoBulk).sum ≤ Rows.uptoBulkAll l:=fun l=>by
  induction l with
  | nil=>exact Nat.le_refl _
  | cons x l ih=>rw [List.map_cons,List.sum_cons,Rows.uptoBulkAll]; omega
 have h1:=hs (ds ++ gs)
 rw [List.map_append,List.sum_append] at h1
 omega
noncomputable def laidWorld (os:Os):World:={ World.holding Tryd.prog os ⟨#[],#[],[]⟩ with heap:=((World.holding Tryd.prog os ⟨#[],#[],[]⟩).heap.modify 0 fun
   | .cells _ t frozen=>.cells #[.int .i64 2,.int .i64 0,.bool false,.int .u64 0] t frozen
   | o=>o) }
theorem astT:∃ e0 e1 e2 e3 e4 s0 s1 s2 s3 s4,AstT Tryd.prog 45 43 75 24 e0 e1 e2 e3 e4 s0 s1 s2 s3 s4:=
 ⟨_,_,_,_,_,_,_,_,_,_,{ e:=Tryd.underlying45,ek:=Tryd.underlying3,eo:=Tryd.underlying3,en:=Tryd.underlying42,es:=Tryd.underlying9,eks:=rfl,es2:=Tryd.underlying43,s:=Tryd.underlying75,sk:=Tryd.underlying3,sn:=Tryd.underlying9,se:=rfl,sa:=rfl,sb:=rfl,ss:=Tryd.underlying24 }⟩
theorem ty_list {P:Program} {t e:TypeId} {α:Type} {f:α→V} {Q:α→Prop} {cs:List V} (ht:P.underlying t=some (.slice e)) (ha:aggT P e=some true)
  (hf:∀ cs,Ty P e cs→∃ a,cs=(f a).cells∧Q a∧∃ l,f a=.agg l) (h:Ty P t cs):∃ l:List α,cs=[.vec (l.map f) .any]∧l.length ≤ maxLen∧∀ x ∈ l,Q x:=by
 obtain ⟨ag,css,h1,rfl,h2,h3⟩:=ty_slice ht h
 rw [ha] at h1
 cases h1
 obtain ⟨l,g1,g2,g3⟩:=list_of (f:=f) (Q:=Q) (css:=css) (fun cs hcs=>hf cs (h2 cs hcs))
 exact ⟨l,by rw [g1],by omega,g3⟩
theorem arg_prog {v:V} (h:TyArg Tryd.prog 26 v):∃ p:Prg,v=p.v∧POk p:=by
 obtain ⟨ag,cs,ha,rfl,hc⟩:=h
 obtain ⟨e0,e1,e2,e3,e4,s0,s1,s2,s3,s4,hT⟩:=astT
 have hP:=Tryd.underlying26
 rw [agg_struct hP] at ha
 cases ha
 obtain ⟨parts,rfl,hl,hp⟩:=ty_struct hP hc
 obtain ⟨a,b,c,rfl,g0,g1,g2⟩:=parts_3 rfl hl hp
 obtain ⟨la,rfl,hla,hca⟩:=ty_list (f:=InD.v) (Q:=InOk) Tryd.underlying22 (agg_struct Tryd.underlying60) (fun cs h=>by
  obtain ⟨x,hx,ok⟩:=ty_in Tryd.underlying60 Tryd.underlying9 Tryd.underlying3 Tryd.underlying3 Tryd.underlying3 h
  exact ⟨x,hx,ok,x.cells,rfl⟩) g0
 obtain ⟨lb,rfl,hlb,hcb⟩:=ty_list (f:=ArD.v) (Q:=ArOk) Tryd.underlying23 (agg_struct Tryd.underlying63) (fun cs h=>by
  obtain ⟨x,hx,ok⟩:=ty_ar Tryd.underlying63 Tryd.underlying9 Tryd.underlying3 h
  exact ⟨x,hx,ok,x.cells,rfl⟩) g1
 obtain ⟨lc,rfl,hlc,hcc⟩:=(ty_stmt hT g2).2 rfl
 exact ⟨⟨la,lb,lc⟩,rfl,⟨hca,hcb,hcc,hla,hlb,hlc⟩⟩
theorem constfoldPreservesMeaning_met (os:Os):laidMet Tryd.prog Rows.constfoldPreservesMeaningUptoRow.laid ((laidWorld os).forCall (fun _ _=>0) ⟨#[],#[.agg #[.slice none 0 0,.slice none 0 0,.slice none 0 0],.slice none 0 0],[]⟩).memory:=
 laidMet_of_run' 8 (by kernel_rfl) (by kernel_rfl)
theorem constfoldPreservesMeaning_reads (os:Os) {H:Type} (enc:TypeId × Value→H):∃ places,DataW.whole enc Tryd.prog ((laidWorld os).forCall (fun _ _=>0) ⟨#[],#[.agg #[.slice none 0 0,.slice none 0 0,.slice none 0 0],.slice none 0 0],[]⟩).memory Tryd.f4.params.toList Rows.constfoldPreservesMeaningSpec.vars false #[.agg #[.slice none 0 0,.slice none 0 0,.slice none 0 0],.slice none 0 0].toList 8=some ([.agg [.nil,.nil,.nil],.nil],[],places):=
 ⟨[],by kernel_rfl⟩
set_option maxRecDepth 100000 in
theorem constfoldPreservesMeaning_lifted (os:Os) (started:os.Started) (H:Type) (enc:TypeId × Value→H) (F:Stop.Interp) :
  ReturnsInHanded {} Tryd.checked os 4 .any ((Rows.OpenSpec.upto Rows.constfoldPreservesMeaningSpec).preRow enc Tryd.prog Tryd.f4 Rows.constfoldPreservesMeaningUptoRow.domain false Rows.constfoldPreservesMeaningUptoRow.laid) (((Rows.OpenSpec.upto Rows.constfoldPreservesMeaningSpec).at F).post enc Tryd.prog Tryd.f4 false true false false):=by
 obtain ⟨places,hx⟩:=constfoldPreservesMeaning_reads os enc
 refine returnsInHanded_of_row (C:=Tryd.checked) (s:=Rows.OpenSpec.upto Rows.constfoldPreservesMeaningSpec) own started (by kernel_rfl) Tryd.func4
  (witness_row_at (enc:=enc) (C:=Tryd.checked) false (laidWorld os) #[.agg #[.slice none 0 0,.slice none 0 0,.slice none 0 0],.slice none 0 0] rfl (by kernel_rfl) (by kernel_rfl) (by kernel_rfl)
   (OpenSpec.preRow_of_cond 8 hx (by kernel_rfl) (fun k hk=>by cases hk; kernel_rfl) (by kernel_rfl) (constfoldPreservesMeaning_met os))) ?_
 intro W base args ds gs before hval hW _ hcond _ hL _ _
 show Calls _ _ _ _ fun e W'=>∃ v,e=.returned v∧Rows.constfoldPreservesMeaningSpec.post enc Tryd.prog Tryd.f4 false true false false W args v W'
 refine law_contractG bulkOK (N:=1048576) (P:=Tryd.prog) (ts:=[26,22,60,23,63,24,75,43,45,3,42,9,35,37]) (tb:=4) callOK (laid_wr hL) laidOut (by kernel_rfl) (by kernel_rfl) (by kernel_rfl) (by kernel_rfl) rfl (fun ds h=>?_) hval hW (small (hcond _ rfl)) fun vs hvs hbk=>?_
 ·have h:ds.length=2:=h
  match ds,h with
  | [a,b],_=>rfl
 ·have hvs:TyArgs Tryd.prog [26,35] vs:=hvs
  obtain ⟨a,b,rfl,ha,hb⟩:=args_2v hvs
  obtain ⟨p,rfl,ok⟩:=arg_prog ha
  obtain ⟨ls,rfl,hl,hw⟩:=arg_lists (e:=37) (u:=42) (by kernel_rfl) (by kernel_rfl) (by kernel_rfl) hb
  have hbp:p.v.bulk ≤ 1048576:=by rw [V.bulks] at hbk; omega
  exact meaning31 ok hbp hl hw fun h'=>rfl
theorem constfoldPreservesMeaning_said:Rows.ConstfoldPreservesMeaningUptoSaid:=
 OpenClaim.holds_of_cond 4 Tryd.f4 rfl rfl rfl rfl rfl rfl rfl ⟨rfl,rfl,rfl,rfl,rfl⟩ rfl rfl rfl rfl rfl (by kernel_rfl) Tryd.func4 (by kernel_rfl)
  (of_decide_eq_true (by kernel_rfl)) (by unfold Func.isWrapper; first | (rw [if_pos (by decide +kernel)]; kernel_rfl) | (rw [if_neg (by decide +kernel)]; exact ⟨rfl,rfl⟩))
  (fun os started H enc _ F=>by rw [OpenClaim.pre_eq_preRow]; exact constfoldPreservesMeaning_lifted os started H enc F)
theorem constfoldPreservesMeaning_plain (f : FuncId) (fn : Func) (hf : Tryd.pinned.checked.prog.funcNamed "privity/privitylaw31.ConstfoldPreservesMeaning" = some f) (hfn : Tryd.pinned.checked.prog.funcs[f]? = some fn) :
  true=Tryd.pinned.checked.prog.looks []∧∀ (j:Nat) t,fn.params[j]?=some t→Tryd.pinned.checked.prog.wantsStandIn t=false:=by
 obtain rfl : f = 4 := Option.some.inj ((show Tryd.prog.funcNamed "privity/privitylaw31.ConstfoldPreservesMeaning" = some 4 by kernel_rfl).symm.trans hf) |>.symm
 obtain rfl:fn=Tryd.f4:=(Option.some.inj (Tryd.func4.symm.trans hfn)).symm
 refine ⟨by kernel_rfl,fun j t ht=>?_⟩
 have hp:Tryd.f4.params=#[26,35]:=by kernel_rfl
 rw [hp] at ht
 have hm:=Array.mem_of_getElem? ht
 simp only [List.mem_toArray,List.mem_cons,List.not_mem_nil,or_false] at hm
 rcases hm with rfl | rfl <;> exact (show Tryd.prog.wantsStandIn _=false by kernel_rfl)
theorem constfoldPreservesMeaning_card:Rows.ConstfoldPreservesMeaningUptoCardSaid:=
 Claim7.holds_tied_plain_at .later [] _ _ _ _ constfoldPreservesMeaning_said (fun _ h=>by cases h) (by kernel_rfl) (fun _ h=>by cases h) constfoldPreservesMeaningUpto_row_tie rfl ⟨rfl,rfl⟩ (by kernel_rfl) rfl constfoldPreservesMeaning_plain (by kernel_rfl)
end Go.Proofs.YtemlhjlceeiflaaDoor
