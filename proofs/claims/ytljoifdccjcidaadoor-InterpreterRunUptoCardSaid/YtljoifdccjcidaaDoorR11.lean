/- Part of a proof: What the rows of these statements list. -/
import Derived.Test.YtljoifdccjcidaaDoorRows
import Derived.Test.YtljoifdccjcidaaDoorR10
import Derived.Test.YtljoifdccjcidaaDoorR6
set_option linter.unusedVariables false
set_option linter.unusedSimpArgs false
set_option maxRecDepth 100000
namespace Go.Ab.YtljoifdccjcidaaDoor
open Go.Proofs.YtljoifdccjcidaaDoor
theorem laid_wr {W : World} (h : laidMetH Go.Proofs.Tryd.prog [("privity/typecheck.truth", Rows.laid_privity_typecheck_truth)] W) : WR (k0 W) h0 W Zik := by
 obtain ⟨ps, ⟨g', t', cs', fuel', p', q', hg', ht', hvar', hd', _, _⟩, _⟩ := (show laidMet Go.Proofs.Tryd.prog [("privity/typecheck.truth", Rows.laid_privity_typecheck_truth)] W from h)
 obtain rfl := Option.some.inj ((show Go.Proofs.Tryd.prog.globalNamed "privity/typecheck.truth" = some 0 by kernel_rfl).symm.trans hg')
 have e2:(Go.Proofs.Tryd.prog.globals[0]?).map (·.type)=some 116:=by kernel_rfl
 obtain rfl:=Option.some.inj (e2.symm.trans ht')
 have u3:Go.Proofs.Tryd.prog.underlying 3=some (.int .i64):=by kernel_rfl
 have u4:Go.Proofs.Tryd.prog.underlying 4=some .bool:=by kernel_rfl
 have u5:Go.Proofs.Tryd.prog.underlying 38=some (.int .u64):=by kernel_rfl
 have c1:Go.Proofs.Tryd.prog.cellsOf 3=1:=by kernel_rfl
 have c3:Go.Proofs.Tryd.prog.cellsOf 4=1:=by kernel_rfl
 have c4:Go.Proofs.Tryd.prog.cellsOf 38=1:=by kernel_rfl
 have c5:Go.Proofs.Tryd.prog.cellsOf 116=4:=by kernel_rfl
 have hfs:∃ f0 f1 f2 f3:Field,Go.Proofs.Tryd.prog.underlying 116=some (.struct #[f0,f1,f2,f3])∧(f0.type=3∧f0.offset=0)∧(f1.type=3∧f1.offset=1)∧(f2.type=4∧f2.offset=2)∧(f3.type=38∧f3.offset=3):=
  ⟨_,_,_,_,Go.Proofs.Tryd.underlying116,⟨by kernel_rfl,by kernel_rfl⟩,⟨by kernel_rfl,by kernel_rfl⟩,⟨by kernel_rfl,by kernel_rfl⟩,⟨by kernel_rfl,by kernel_rfl⟩⟩
 obtain ⟨f0,f1,f2,f3,hfs,⟨ft0,fo0⟩,⟨ft1,fo1⟩,⟨ft2,fo2⟩,⟨ft3,fo3⟩⟩:=hfs
 obtain ⟨xs,n,_,hx,hl,hlen,hf⟩:=DataW.trod_struct hfs hd'
 have t2:cs'.toList=[.int .i64 2,.int .i64 0,.bool false,.int .u64 0]:=by
  rw [c5] at hl
  match xs,hlen with
  | [y0,y1,y2,y3],_ =>
  have g0:=hf 0 f0 rfl
  have g1:=hf 1 f1 rfl
  have g2:=hf 2 f2 rfl
  have g3:=hf 3 f3 rfl
  simp only [ft0,fo0,ft1,fo1,ft2,fo2,ft3,fo3,c1,c3,c4] at g0 g1 g2 g3
  obtain ⟨a0,b0,d0,_⟩:=DataW.trod_int u3 g0
  obtain ⟨a1,b1,d1,_⟩:=DataW.trod_int u3 g1
  obtain ⟨a2,b2,d2⟩:=DataW.trod_bool u4 g2
  obtain ⟨a3,b3,d3,_⟩:=DataW.trod_int u5 g3
  match hcs:cs'.toList,hl with
  | [z0,z1,z2,z3],_ =>
  rw [hcs] at b0 b1 b2 b3
  simp at b0 b1 b2 b3
  subst b0 b1 b2 b3
  rw [d0,d1,d2,d3] at hx
  simp [Rows.laid_privity_typecheck_truth] at hx
  obtain ⟨⟨rfl,rfl,rfl,rfl⟩,_⟩:=hx
  rfl
 refine wrG fun g cells hm=>?_
 simp only [Zik,List.mem_cons,List.not_mem_nil,or_false,Prod.mk.injEq] at hm
 obtain ⟨rfl,rfl⟩:=hm
 refine glob_vr (by simp) fun j v hj=>?_
 rw [World.var?_cell hg' hvar' j,← Array.getElem?_toList,t2]
 match j,hj with
 | 0,hj | 1,hj | 2,hj | 3,hj=>simp at hj; subst hj; rfl
 | j + 4,hj=>simp at hj
end Go.Ab.YtljoifdccjcidaaDoor
