/- The statements CompilerEncodeInputs, in their second form: for every input of bulk at most 1048576 the call returns true, and each argument reads as it did; and their cards. -/
import Derived.Test.YtihjhelbdbeokaaGreatDoorRows
import Derived.Test.YtihjhelbdbeokaaGreatDoorCards
import Derived.Test.YtihjhelbdbeokaaGreatDoorTie
import Derived.Deep.DeepHandedRow
import Derived.LaidLaws
import Derived.WalkKit
import Derived.ProofKit
import Derived.Test.YtihjhelbdbeokaaGreatDoorQ8
import Derived.OpenShut
import Derived.JoinedCond
import Derived.Test.YtihjhelbdbeokaaGreatDoorQ11
import Derived.Test.YtihjhelbdbeokaaGreatDoorQ10
set_option linter.unusedVariables false
set_option linter.unusedSimpArgs false
namespace Go.Proofs.YtihjhelbdbeokaaGreatDoor
open Go.Ab Go.Ab.YtihjhelbdbeokaaGreatDoor
theorem own:ownKnob Tryz.prog.godebug=none:=by kernel_rfl
theorem laidOut:laidOutB Tryz.prog=true:=by kernel_rfl
theorem bulkOK {H:Type}:BulkOK (H':=H) Rows.uptoBulk:=by
 have hs:∀ l:List (DataW H),(l.map Rows.uptoBulk).sum ≤ Rows.uptoBulkAll l:=fun l=>by
  induction l with
  | nil=>exact Nat.le_refl _
  | cons x l ih=>rw [List.map_cons,List.sum_cons,Rows.uptoBulkAll]; omega
 refine ⟨fun l=>?_,fun l=>?_,?_,fun e s=>?_,fun e=>?_⟩
 ·rw [Rows.uptoBulk]; exact Nat.le_refl _
 ·cases l <;> simp [Rows.uptoBulk]
 ·rw [Rows.uptoBulk]; exact Nat.le_refl _
 ·have:=hs e
  rw [Rows.uptoBulk]; omega
 ·have:=hs e
  rw [Rows.uptoBulk]; omega
theorem small {H:Type} {ds gs:List (DataW H)} (hk:Rows.uptoSmall H (ds ++ gs)=true):(ds.map Rows.uptoBulk).sum ≤ 1048576:=by
 have h:=of_decide_eq_true hk
 have hs:∀ l:List (DataW H),(l.map Rows.uptoBulk).sum ≤ Rows.uptoBulkAll l:=fun l=>by
  induction l with
  | nil=>exact Nat.le_refl _
  | cons x l ih=>rw [List.map_cons,List.sum_cons,Rows.uptoBulkAll]; omega
 have h1:=hs (ds ++ gs)
 rw [List.map_append,List.sum_append] at h1
 omega
noncomputable def laidWorld (os:Os):World:={ World.holding Tryz.prog os ⟨#[],#[],[]⟩ with heap:=(((World.holding Tryz.prog os ⟨#[],#[],[]⟩).heap.modify 0 fun
   | .cells _ t frozen=>.cells #[.int .i64 5,.int .i64 7,.int .i64 13,.int .i64 17,.int .i64 19,.int .i64 31,.int .i64 61] t frozen
   | o=>o).modify 1 fun
   | .cells _ t frozen=>.cells #[.int .i64 2,.int .i64 0,.bool false,.int .u64 0] t frozen
   | o=>o) }
theorem astT:∃ e0 e1 e2 e3 e4 s0 s1 s2 s3 s4,AstT Tryz.prog 64 62 67 24 e0 e1 e2 e3 e4 s0 s1 s2 s3 s4:=
 ⟨_,_,_,_,_,_,_,_,_,_,{ e:=Tryz.underlying64,ek:=Tryz.underlying3,eo:=Tryz.underlying3,en:=Tryz.underlying27,es:=Tryz.underlying9,eks:=rfl,es2:=Tryz.underlying62,s:=Tryz.underlying67,sk:=Tryz.underlying3,sn:=Tryz.underlying9,se:=rfl,sa:=rfl,sb:=rfl,ss:=Tryz.underlying24 }⟩
theorem Zud {P:Program} {t e:TypeId} {α:Type} {f:α→V} {Q:α→Prop} {cs:List V} (ht:P.underlying t=some (.slice e)) (ha:aggT P e=some true)
  (hf:∀ cs,Ty P e cs→∃ a,cs=(f a).cells∧Q a∧∃ l,f a=.agg l) (h:Ty P t cs):∃ l:List α,cs=[.vec (l.map f) .any]∧l.length ≤ maxLen∧∀ x ∈ l,Q x:=by
 obtain ⟨ag,css,h1,rfl,h2,h3⟩:=Zlv ht h
 rw [ha] at h1
 cases h1
 obtain ⟨l,g1,g2,g3⟩:=Zpf (f:=f) (Q:=Q) (css:=css) (fun cs hcs=>hf cs (h2 cs hcs))
 exact ⟨l,by rw [g1],by omega,g3⟩
theorem arg_prog {v:V} (h:Zqa Tryz.prog 26 v):∃ p:Prg,v=p.v∧POk p:=by
 obtain ⟨ag,cs,ha,rfl,hc⟩:=h
 obtain ⟨e0,e1,e2,e3,e4,s0,s1,s2,s3,s4,hT⟩:=astT
 have hP:=Tryz.underlying26
 rw [Zeh hP] at ha
 cases ha
 obtain ⟨parts,rfl,hl,hp⟩:=Zi7 hP hc
 obtain ⟨a,b,c,rfl,g0,g1,g2⟩:=parts_3 rfl hl hp
 obtain ⟨la,rfl,hla,hca⟩:=Zud (f:=InD.v) (Q:=InOk) Tryz.underlying22 (Zeh Tryz.underlying55) (fun cs h=>by
  obtain ⟨x,hx,ok⟩:=ty_in Tryz.underlying55 Tryz.underlying9 Tryz.underlying3 Tryz.underlying3 Tryz.underlying3 h
  exact ⟨x,hx,ok,x.cells,rfl⟩) g0
 obtain ⟨lb,rfl,hlb,hcb⟩:=Zud (f:=ArD.v) (Q:=ArOk) Tryz.underlying23 (Zeh Tryz.underlying85) (fun cs h=>by
  obtain ⟨x,hx,ok⟩:=ty_ar Tryz.underlying85 Tryz.underlying9 Tryz.underlying3 h
  exact ⟨x,hx,ok,x.cells,rfl⟩) g1
 obtain ⟨lc,rfl,hlc,hcc⟩:=(ty_stmt hT g2).2 rfl
 exact ⟨⟨la,lb,lc⟩,rfl,⟨hca,hcb,hcc,hla,hlb,hlc⟩⟩
theorem Zeg (os:Os):laidMet Tryz.prog Rows.compilerEncodeInputsUptoRow.laid ((laidWorld os).forCall (fun _ _=>0) ⟨#[],#[.agg #[.slice none 0 0,.slice none 0 0,.slice none 0 0],.slice none 0 0],[]⟩).memory:=
 laidMet_of_run' 8 (by kernel_rfl) (by kernel_rfl)
theorem Zdh (os:Os) {H:Type} (enc:TypeId × Value→H):∃ places,DataW.whole enc Tryz.prog ((laidWorld os).forCall (fun _ _=>0) ⟨#[],#[.agg #[.slice none 0 0,.slice none 0 0,.slice none 0 0],.slice none 0 0],[]⟩).memory Tryz.f5.params.toList Rows.compilerEncodeInputsSpec.vars false #[.agg #[.slice none 0 0,.slice none 0 0,.slice none 0 0],.slice none 0 0].toList 8=some ([.agg [.nil,.nil,.nil],.nil],[],places):=
 ⟨[],by kernel_rfl⟩
set_option maxRecDepth 100000 in
theorem Zde (os:Os) (started:os.Started) (H:Type) (enc:TypeId × Value→H) (F:Stop.Interp) :
  ReturnsInHanded {} Tryz.checked os 5 .any ((Rows.OpenSpec.upto Rows.compilerEncodeInputsSpec).preRow enc Tryz.prog Tryz.f5 Rows.compilerEncodeInputsUptoRow.domain false Rows.compilerEncodeInputsUptoRow.laid) (((Rows.OpenSpec.upto Rows.compilerEncodeInputsSpec).at F).post enc Tryz.prog Tryz.f5 false true false false):=by
 obtain ⟨places,hx⟩:=Zdh os enc
 refine returnsInHanded_of_row (C:=Tryz.checked) (s:=Rows.OpenSpec.upto Rows.compilerEncodeInputsSpec) own started (by kernel_rfl) Tryz.func5
  (witness_row_at (enc:=enc) (C:=Tryz.checked) false (laidWorld os) #[.agg #[.slice none 0 0,.slice none 0 0,.slice none 0 0],.slice none 0 0] rfl (by kernel_rfl) (by kernel_rfl) (by kernel_rfl)
   (OpenSpec.preRow_of_cond 8 hx (by kernel_rfl) (fun k hk=>by cases hk; kernel_rfl) (by kernel_rfl) (Zeg os))) ?_
 intro W base args ds gs before hval hW _ hcond _ hL _ _
 show Calls _ _ _ _ fun e W'=>∃ v,e=.returned v∧Rows.compilerEncodeInputsSpec.post enc Tryz.prog Tryz.f5 false true false false W args v W'
 refine Zmj bulkOK (N:=1048576) (P:=Tryz.prog) (ts:=[26,22,55,23,85,24,67,62,64,3,27,9,28,40]) (tb:=4) callOK (laid_wr hL) laidOut (by kernel_rfl) (by kernel_rfl) (by kernel_rfl) (by kernel_rfl) rfl (fun ds h=>?_) hval hW (small (hcond _ rfl)) fun vs hvs hbk=>?_
 ·have h:ds.length=2:=h
  match ds,h with
  | [a,b],_=>rfl
 ·have hvs:Zlr Tryz.prog [26,28] vs:=hvs
  obtain ⟨a,b,rfl,ha,hb⟩:=args_2v hvs
  obtain ⟨p,rfl,ok⟩:=arg_prog ha
  obtain ⟨ls,rfl,hl,hw⟩:=Zxk (e:=40) (u:=27) (by kernel_rfl) (by kernel_rfl) (by kernel_rfl) hb
  have hbp:p.v.bulk ≤ 1048576∧(LV ls).bulk ≤ 1048576:=by rw [V.bulks,V.bulks,V.bulks] at hbk; omega
  exact encode35 ok hbp.1 hbp.2 hw fun h'=>rfl
theorem Zdz:Rows.CompilerEncodeInputsUptoSaid:=
 OpenClaim.holds_of_cond 5 Tryz.f5 rfl rfl rfl rfl rfl rfl rfl ⟨rfl,rfl,rfl,rfl,rfl⟩ rfl rfl rfl rfl rfl (by kernel_rfl) Tryz.func5 (by kernel_rfl)
  (of_decide_eq_true (by kernel_rfl)) (by unfold Func.isWrapper; first | (rw [if_pos (by decide +kernel)]; kernel_rfl) | (rw [if_neg (by decide +kernel)]; exact ⟨rfl,rfl⟩))
  (fun os started H enc _ F=>by rw [OpenClaim.pre_eq_preRow]; exact Zde os started H enc F)
theorem Zdi (f : FuncId) (fn : Func) (hf : Tryz.pinned.checked.prog.funcNamed "privity/privitylaw35.CompilerEncodeInputs" = some f) (hfn : Tryz.pinned.checked.prog.funcs[f]? = some fn) :
  true=Tryz.pinned.checked.prog.looks []∧∀ (j:Nat) t,fn.params[j]?=some t→Tryz.pinned.checked.prog.wantsStandIn t=false:=by
 obtain rfl : f = 5 := Option.some.inj ((show Tryz.prog.funcNamed "privity/privitylaw35.CompilerEncodeInputs" = some 5 by kernel_rfl).symm.trans hf) |>.symm
 obtain rfl:fn=Tryz.f5:=(Option.some.inj (Tryz.func5.symm.trans hfn)).symm
 refine ⟨by kernel_rfl,fun j t ht=>?_⟩
 have hp:Tryz.f5.params=#[26,28]:=by kernel_rfl
 rw [hp] at ht
 have hm:=Array.mem_of_getElem? ht
 simp only [List.mem_toArray,List.mem_cons,List.not_mem_nil,or_false] at hm
 rcases hm with rfl | rfl <;> exact (show Tryz.prog.wantsStandIn _=false by kernel_rfl)
theorem compilerEncodeInputs_card:Rows.CompilerEncodeInputsUptoCardSaid:=
 Claim7.holds_tied_plain_at .later [] _ _ _ _ Zdz (fun _ h=>by cases h) (by kernel_rfl) (fun _ h=>by cases h) compilerEncodeInputsUpto_row_tie rfl ⟨rfl,rfl⟩ (by kernel_rfl) rfl Zdi (by kernel_rfl)
end Go.Proofs.YtihjhelbdbeokaaGreatDoor
