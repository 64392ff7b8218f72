/- Part of a proof: The rules of a step, in two bundles. (Printed by program.) -/
import Derived.Test.YtihjhelbdbeokaaGreatDoorQ3
import Derived.Test.YtihjhelbdbeokaaGreatDoorQ4
set_option linter.unusedVariables false
set_option linter.defProp false
namespace Go.Ab
def STP:=(And.intro (And.intro (And.intro @Zt0 (And.intro @Zm3 @Zty)) (And.intro (And.intro @Ztz @Zoz) (And.intro @Zx7 @Zx9))) (And.intro (And.intro (And.intro @Zx8 @Zpo) (And.intro @endK_ret @endK_pan)) (And.intro (And.intro @upd_ite @evA_tmp) (And.intro @evA_cst @evA_glob))))
def STQ:=(And.intro (And.intro (And.intro (And.intro (And.intro (And.intro (And.intro (And.intro @Zto @Zw4) (And.intro @Ztp (And.intro @Zpv @Zw2))) (And.intro (And.intro @Ztq @Zpw) (And.intro @Zw5 (And.intro @Zw3 @endT_mk)))) (And.intro (And.intro (And.intro @opsT_nil @Zvj) (And.intro @Zst (And.intro @Ztk @Zn5))) (And.intro (And.intro @Zmw @Zpq) (And.intro @Zn4 (And.intro @opT_mv @opT_pick))))) (And.intro (And.intro (And.intro (And.intro @opT_load @opT_fad) (And.intro @opT_idxS (And.intro @opT_idxP @Zsu))) (And.intro (And.intro @opT_idxA @opT_fld) (And.intro @opT_bin (And.intro @opT_un @opT_cvI)))) (And.intro (And.intro (And.intro @opT_cvS @opT_cvB) (And.intro @opT_mkI (And.intro @opT_asrt @opT_ext))) (And.intro (And.intro @opT_len @opT_lenK) (And.intro @opT_max (And.intro @opT_min @opT_slc)))))) (And.intro (And.intro (And.intro (And.intro (And.intro @opT_slcS @opT_bld) (And.intro @opT_bsl (And.intro @opT_mkF @opT_nilc))) (And.intro (And.intro @opT_lkp @Zvl) (And.intro @opT_bare (And.intro @Zvk @opT_boxO)))) (And.intro (And.intro (And.intro @opT_boxL @Zsv) (And.intro @Zsw (And.intro @opT_bslO @opT_mksL))) (And.intro (And.intro @opT_mksO @opT_app) (And.intro @opT_mkM (And.intro @opT_mup @opT_mdel))))) (And.intro (And.intro (And.intro (And.intro @opT_call @Zr1) (And.intro @Zr2 (And.intro @Zot @Zou))) (And.intro (And.intro @Zr3 @Zr4) (And.intro @Zov (And.intro @Zow @Zr8)))) (And.intro (And.intro (And.intro @Zr9 @Zr5) (And.intro @Zr6 (And.intro @onB_true @Zvn))) (And.intro (And.intro @onB_none @Zym) (And.intro @Zyn (And.intro @tick_mk @Zsa))))))) (And.intro (And.intro (And.intro (And.intro (And.intro (And.intro @Zox @Zsb) (And.intro @Zsn (And.intro @Zo6 @not_false_eq_true))) (And.intro (And.intro @Option.map_some.{0,0} @Option.map_none.{0,0}) (And.intro @Bool.not_true (And.intro @Bool.not_false @true_and)))) (And.intro (And.intro (And.intro @and_true @false_and) (And.intro @and_false (And.intro @and_self @false_and))) (And.intro (And.intro @and_false @and_self) (And.intro @out_bool (And.intro @out_int @out_str))))) (And.intro (And.intro (And.intro (And.intro @out_vec @outS_any) (And.intro @Zvh (And.intro @outS_own @Zvi))) (And.intro (And.intro @outS_int @outS_str) (And.intro @outS_ref (And.intro @Zvf @outS_ptr)))) (And.intro (And.intro (And.intro @Zo8 @outS_map) (And.intro @Zo9 (And.intro @Zvg @Znm))) (And.intro (And.intro @Zsr @Zl9) (And.intro @outS_agg (And.intro @Zu5 @Zsk)))))) (And.intro (And.intro (And.intro (And.intro (And.intro @Zyi @Zu4) (And.intro @bind_some (And.intro @out_ref @out_iptr))) (And.intro (And.intro @out_ptr @Zsp) (And.intro @out_map (And.intro @Zsq @out_func)))) (And.intro (And.intro (And.intro @Zo7 @Zve) (And.intro @Znl (And.intro @out_agg @Zxc))) (And.intro (And.intro @Ztu @Zw8) (And.intro @Zw7 (And.intro @Zw9 @Zxa))))) (And.intro (And.intro (And.intro (And.intro @Zof @Zxb) (And.intro @Zog (And.intro @Zp2 @Zkn))) (And.intro (And.intro @Ztt @Zxd) (And.intro @Zrq (And.intro @args_1 @args_2)))) (And.intro (And.intro (And.intro @args_3 @args_4) (And.intro @args_5 (And.intro @args_6 @args_7))) (And.intro (And.intro @m0_def (And.intro @ρ0_eq @m0_eq)) (And.intro @List.map_cons.{0,0} (And.intro @List.map_nil.{0,0} @List.not_mem_nil.{0})))))))) (And.intro (And.intro (And.intro (And.intro (And.intro (And.intro (And.intro @List.length_cons.{0} @List.length_nil.{0}) (And.intro @List.drop_zero.{0} (And.intro @List.drop_succ_cons.{0} @List.take_succ_cons.{0}))) (And.intro (And.intro @List.take_zero.{0} @List.take_nil.{0}) (And.intro @get_zero (And.intro @get_succ @Nat.zero_add)))) (And.intro (And.intro (And.intro @Nat.add_zero @Nat.not_lt_zero) (And.intro @beqI (And.intro @bneI @decide_true))) (And.intro (And.intro @decide_false @Nat.zero_lt_one) (And.intro @Nat.zero_le (And.intro @List.headD_cons.{0} @clear_cl))))) (And.intro (And.intro (And.intro (And.intro @cl_nil @cl_cons) (And.intro @Zph (And.intro @Zv0 @Zta))) (And.intro (And.intro @Zs9 @rd_load) (And.intro @rd_len (And.intro @rd_lkp @len_vec)))) (And.intro (And.intro (And.intro @len_ref @len_str) (And.intro @Zs6 (And.intro @len_map @Zvu))) (And.intro (And.intro @load_ptr @Zvt) (And.intro @Zxr (And.intro @addP_ptr @Zxq)))))) (And.intro (And.intro (And.intro (And.intro (And.intro @idx_vec @idx_ref) (And.intro @Zug (And.intro @Zsz @all_nil))) (And.intro (And.intro @Zrv @keepV_l) (And.intro @Zv2 (And.intro @Zv3 @keepC_mk)))) (And.intro (And.intro (And.intro @Zsl @Zyk) (And.intro @Zsm (And.intro @Zu7 @Zyj))) (And.intro (And.intro @Zu6 @List.reverse_cons.{0}) (And.intro @List.reverse_nil.{0} (And.intro @Zv1 @Bool.and_self))))) (And.intro (And.intro (And.intro (And.intro @Bool.and_true @Bool.true_and) (And.intro @Zuw (And.intro @Zsg @Zus))) (And.intro (And.intro @Zuv @Zsh) (And.intro @Zup (And.intro @Zuq @Zur)))) (And.intro (And.intro (And.intro @Zse @Zne) (And.intro @Zut (And.intro @Znf @Zuu))) (And.intro (And.intro @Zo2 (And.intro @Zkh @Zsf)) (And.intro @Zl2 (And.intro @Zux @Zo1))))))) (And.intro (And.intro (And.intro (And.intro (And.intro (And.intro @Zyg @Zuz) (And.intro @Zu1 (And.intro @List.nil_append.{0} @List.cons_append.{0}))) (And.intro (And.intro @List.mem_cons.{0} @List.mem_singleton.{0}) (And.intro @or_false (And.intro @or_true @false_or)))) (And.intro (And.intro (And.intro @true_or @not_true_eq_false) (And.intro @not_false_eq_true (And.intro @List.replicate_succ.{0} @List.replicate_zero.{0}))) (And.intro (And.intro @List.flatten_cons.{0} @List.flatten_nil.{0}) (And.intro @List.append_nil.{0} (And.intro @Bool.false_eq_true @Nat.le_refl))))) (And.intro (And.intro (And.intro (And.intro @Nat.le_add_left @List.drop_nil.{0}) (And.intro @List.head?_cons.{0} (And.intro @Option.getD_some.{0} @castL))) (And.intro (And.intro @bb_tt @bb_tf) (And.intro @bb_ft (And.intro @bb_ff @gt_iff_lt.{0})))) (And.intro (And.intro (And.intro @ge_iff_le.{0} @isRd.eq_def) (And.intro @idxPV.eq_def (And.intro @idxStrV.eq_def @idxAV.eq_def))) (And.intro (And.intro @fldV.eq_def @cvIV.eq_def) (And.intro @cvSV.eq_def (And.intro @cvBV.eq_def @mkIV.eq_def)))))) (And.intro (And.intro (And.intro (And.intro (And.intro @asrtV.eq_def @extV.eq_def) (And.intro @maxsV.eq_def (And.intro @minsV.eq_def @mkFV.eq_def))) (And.intro (And.intro @nilcV.eq_def @asB.eq_def) (And.intro @S.blank.eq_def (And.intro @S.withH.eq_def @landV.eq_def)))) (And.intro (And.intro (And.intro @stampV.eq_def @finish.eq_def) (And.intro @outR.eq_def (And.intro @takeV.eq_def @takeL.eq_def))) (And.intro (And.intro @binV.eq_def @binI.eq_def) (And.intro @cmpI.eq_def (And.intro @unV.eq_def @boxable.eq_def))))) (And.intro (And.intro (And.intro (And.intro @over.eq_def @mkEl.eq_def) (And.intro @eqV.eq_def (And.intro @eqC.eq_def @nils.eq_def))) (And.intro (And.intro @isNilM.eq_def @isNilI.eq_def) (And.intro @again.eq_1 (And.intro @again.eq_2 @outs.eq_1)))) (And.intro (And.intro (And.intro @outs.eq_2 @resVs.eq_1) (And.intro @resVs.eq_2 (And.intro @outRs.eq_1 @outRs.eq_2))) (And.intro (And.intro @fillV.eq_1 (And.intro @fillV.eq_2 @chunk.eq_1)) (And.intro @chunk.eq_2 (And.intro @eqCs.eq_1 @eqCs.eq_2)))))))))
end Go.Ab
set_option linter.unusedSimpArgs false
set_option maxRecDepth 100000
namespace Go.Ab.YtihjhelbdbeokaaGreatDoor
open Go.Proofs (Tryz.prog)
noncomputable def gB:Code:=bodyC Go.Proofs.Tryz.f58
noncomputable def cB:Code:=bodyC Go.Proofs.Tryz.f94
noncomputable def goneDef:Defers Go.Proofs.Tryz.prog 58 94 hs58 ir58 where
 fn:=Go.Proofs.Tryz.f58
 r0:=cS1 gB
 rest:=cS2 (cS2 gB)
 rid:=cId (cS1 (cS2 gB))
 o0:=cOp (cS1 (cS2 gB)) 0
 o1:=cOp (cS1 (cS2 gB)) 1
 c1:=match ir58.body with | .seq _ c=>c | _=>.skip
 hfn:=Go.Proofs.Tryz.func58
 name:=by decide +kernel
 body:=by kernel_rfl
 q0:=⟨by kernel_rfl,by kernel_rfl,by kernel_rfl⟩
 q1:=⟨by kernel_rfl,by kernel_rfl,Zm1 (cOp (cS1 (cS2 gB)) 1),by kernel_rfl⟩
 nt:=Nat.le_of_ble_eq_true (by kernel_rfl)
 tr:=tr58
 shape:=by kernel_rfl
 res:=by kernel_rfl
noncomputable def goneClo:Closure Go.Proofs.Tryz.prog 94 156 hs94 ir94 where
 gn:=Go.Proofs.Tryz.f94
 r2:=cThen (cS2 (cS2 cB))
 i0:=cId (cS1 cB)
 i1:=cId (cS1 (cS2 cB))
 p0:=cOp (cS1 cB) 0
 p1:=cOp (cS1 cB) 1
 p2:=cOp (cS1 (cS2 cB)) 0
 p3:=cOp (cS1 (cS2 cB)) 1
 ti:=(binT (cOp (cS1 (cS2 cB)) 1)).1
 ti':=(binT (cOp (cS1 (cS2 cB)) 1)).2
 hgn:=Go.Proofs.Tryz.func94
 gname:=by decide +kernel
 body:=by kernel_rfl
 res:=by kernel_rfl
 nt:=by kernel_rfl
 q0:=⟨by kernel_rfl,by kernel_rfl,Zm1 (cOp (cS1 cB) 0),by kernel_rfl⟩
 q1:=⟨by kernel_rfl,by kernel_rfl,by kernel_rfl⟩
 q2:=⟨by kernel_rfl,by kernel_rfl,by kernel_rfl⟩
 q3:=⟨by kernel_rfl,by kernel_rfl,by kernel_rfl⟩
 tiu:=⟨#[],by kernel_rfl⟩
 tr:=by kernel_rfl
theorem catches:Zqe ir94 156:=by
 intro call fuel h j0 j1 n x0 x1 K hne g0 g1 hK
 show Zc8 call ir94.body _ K ⟨⟩
 have g1':(h.set j0 (.cells [.int .i64 0])).objs j1=some (.cells [x1]):=by simp only [H.set,upd]; rw [if_neg (fun e=>hne e.symm)]; exact g1
 simp -dsimp -implicitDefEqProofs only [↓STP,STQ,seval,ir94,rho3,Zad,H.get,g0,g1',Nat.lt_succ_self]
 exact hK _ rfl
noncomputable def mB:Code:=bodyC Go.Proofs.Tryz.f38
noncomputable def nB:Code:=bodyC Go.Proofs.Tryz.f60
noncomputable def madeDef:DefN Go.Proofs.Tryz.prog 38 60 hs38 ir38 where
 fn:=Go.Proofs.Tryz.f38
 r0:=cS1 mB
 rest:=cS2 (cS2 mB)
 rid:=cId (cS1 (cS2 mB))
 o0:=cOp (cS1 (cS2 mB)) 0
 o1:=cOp (cS1 (cS2 mB)) 1
 c1:=match ir38.body with | .seq _ c=>c | _=>.skip
 hfn:=Go.Proofs.Tryz.func38
 name:=by decide +kernel
 body:=by kernel_rfl
 q0:=⟨by kernel_rfl,by kernel_rfl,by kernel_rfl⟩
 q1:=⟨by kernel_rfl,by kernel_rfl,Zm1 (cOp (cS1 (cS2 mB)) 1),by kernel_rfl⟩
 nt:=Nat.le_of_ble_eq_true (by kernel_rfl)
 tr:=tr38
 shape:=by kernel_rfl
 res:=by kernel_rfl
noncomputable def madeClo:CloN Go.Proofs.Tryz.prog 60 where
 gn:=Go.Proofs.Tryz.f60
 r2:=cThen (cS2 (cS2 nB))
 i0:=cId (cS1 nB)
 i1:=cId (cS1 (cS2 nB))
 p0:=cOp (cS1 nB) 0
 p1:=cOp (cS1 nB) 1
 p2:=cOp (cS1 (cS2 nB)) 0
 p3:=cOp (cS1 (cS2 nB)) 1
 ti:=(binT (cOp (cS1 (cS2 nB)) 1)).1
 ti':=(binT (cOp (cS1 (cS2 nB)) 1)).2
 hgn:=Go.Proofs.Tryz.func60
 gname:=by decide +kernel
 body:=by kernel_rfl
 res:=by kernel_rfl
 nt:=by kernel_rfl
 q0:=⟨by kernel_rfl,by kernel_rfl,Zm1 (cOp (cS1 nB) 0),by kernel_rfl⟩
 q1:=⟨by kernel_rfl,by kernel_rfl,by kernel_rfl⟩
 q2:=⟨by kernel_rfl,by kernel_rfl,by kernel_rfl⟩
 q3:=⟨by kernel_rfl,by kernel_rfl,by kernel_rfl⟩
 tiu:=⟨#[],by kernel_rfl⟩
theorem Zte:∀ p ∈ Zgv,∀ v ∈ p.2,v.scal=true:=by decide
def exts:FuncId→Option (Zas→List V→H→(Out→H→Prop)→Prop):=fun f =>
 if f=58 then some (Zil ir58 156) else if f=176 then some (Zim) else if f=38 then some (Zj5 ir38 2) else if f=13 then some (Zfi ir13) else none
theorem Zh5 {f:FuncId} {x:Zas→List V→H→(Out→H→Prop)→Prop} (h:exts f=some x) :
  (f=58∧x=Zil ir58 156)∨(f=176∧x=Zim)∨(f=38∧x=Zj5 ir38 2)∨(f=13∧x=Zfi ir13):=by
 unfold exts at h
 split at h
 ·rename_i hf; cases h; exact .inl ⟨hf,rfl⟩
 ·skip
  split at h
  ·rename_i hf; cases h; exact .inr (.inl ⟨hf,rfl⟩)
  ·skip
   split at h
   ·rename_i hf; cases h; exact .inr (.inr (.inl ⟨hf,rfl⟩))
   ·skip
    split at h
    ·rename_i hf; cases h; exact .inr (.inr (.inr (⟨hf,rfl⟩)))
    ·cases h
theorem exts_le:∀ f x,exts f=some x→∀ (call call2:Zas),Le2 call call2→∀ args h (K K':Out→H→Prop),(∀ o h',K o h'→K' o h')→x call args h K→x call2 args h K':=by
 intro f x hx
 rcases Zh5 hx with ⟨_,rfl⟩ | ⟨_,rfl⟩ | ⟨_,rfl⟩ | ⟨_,rfl⟩
 ·exact Zwz
 ·exact Zw6
 ·exact Zw0
 ·exact Zts
theorem Zwk:∀ f x,exts f=some x→∀ (call:Zas),Cont call→Zb8 call→∀ args h (Q:Nat→Out→H→Prop),(∀ m m' o h',m ≤ m'→Q m o h'→Q m' o h')→x call args h (fun o h'=>∃ m,Q m o h')→∃ m,x call args h (Q m):=by
 intro f x hx
 rcases Zh5 hx with ⟨_,rfl⟩ | ⟨_,rfl⟩ | ⟨_,rfl⟩ | ⟨_,rfl⟩
 ·exact Zpt
 ·exact Zp0
 ·exact Zpu
 ·exact Zob
theorem Zth:∀ f x,exts f=some x→∀ call,Zby Go.Proofs.Tryz.prog Zgv call→Zb8 call→∀ args h K,x call args h K→Zez Go.Proofs.Tryz.prog f∧∀ k w xs,WR k h w Zgv→Zgi k w args xs →
  Calls Go.Proofs.Tryz.prog f xs w fun en w'=>∃ o h',K o h'∧Zbw Zgv k h w o h' en w':=by
 intro f x hx
 rcases Zh5 hx with ⟨rfl,rfl⟩ | ⟨rfl,rfl⟩ | ⟨rfl,rfl⟩ | ⟨rfl,rfl⟩
 ·exact fun call hc hm args h K hxx=>Zps goneDef goneClo catches (by kernel_rfl) (fun g cells h=>h) (fun g cells h=>h) call hc hm args h K hxx
 ·exact fun call hc hm args h K hxx=>Zpy call hc hm args h K hxx
 ·exact fun call hc hm args h K hxx=>Ztl madeDef madeClo (by kernel_rfl) (fun g cells h=>h) call hc hm args h K hxx
 ·exact fun call hc hm args h K hxx=>Zoa Go.Proofs.Tryz.func13 (by decide +kernel) tr13 (fun g cells h=>h) (by kernel_rfl) (fun g cells hg=>Zte _ hg) call hc hm args h K hxx
end Go.Ab.YtihjhelbdbeokaaGreatDoor
