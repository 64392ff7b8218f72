/- Part of a proof: What the rows of these statements list. -/
import Derived.Test.YtihjhelbdbeokaaGreatDoorRows
import Derived.Test.YtihjhelbdbeokaaGreatDoorQ10
import Derived.Test.YtihjhelbdbeokaaGreatDoorQ6
set_option linter.unusedVariables false
set_option linter.unusedSimpArgs false
set_option maxRecDepth 100000
namespace Go.Ab.YtihjhelbdbeokaaGreatDoor
open Go.Proofs.YtihjhelbdbeokaaGreatDoor
theorem laid_wr {W : World} (h : laidMetH Go.Proofs.Tryz.prog [("privity/field.exps", Rows.laid_privity_field_exps), ("privity/typecheck.truth", Rows.laid_privity_typecheck_truth)] W) : WR (k0 W) h0 W Zgv := by
 obtain ⟨ps, ⟨g, t, cs, fuel, p, q, hg, ht, hvar, hd, ⟨g', t', cs', fuel', p', q', hg', ht', hvar', hd', _, _⟩, _⟩, _⟩ := (show laidMet Go.Proofs.Tryz.prog [("privity/field.exps", Rows.laid_privity_field_exps), ("privity/typecheck.truth", Rows.laid_privity_typecheck_truth)] W from h)
 obtain rfl := Option.some.inj ((show Go.Proofs.Tryz.prog.globalNamed "privity/field.exps" = some 0 by kernel_rfl).symm.trans hg)
 obtain rfl := Option.some.inj ((show Go.Proofs.Tryz.prog.globalNamed "privity/typecheck.truth" = some 1 by kernel_rfl).symm.trans hg')
 have e1:(Go.Proofs.Tryz.prog.globals[0]?).map (·.type)=some 165:=by kernel_rfl
 have e2:(Go.Proofs.Tryz.prog.globals[1]?).map (·.type)=some 187:=by kernel_rfl
 obtain rfl:=Option.some.inj (e1.symm.trans ht)
 obtain rfl:=Option.some.inj (e2.symm.trans ht')
 have u1:Go.Proofs.Tryz.prog.underlying 165=some (.array 7 3):=by kernel_rfl
 have u3:Go.Proofs.Tryz.prog.underlying 3=some (.int .i64):=by kernel_rfl
 have u4:Go.Proofs.Tryz.prog.underlying 4=some .bool:=by kernel_rfl
 have u5:Go.Proofs.Tryz.prog.underlying 27=some (.int .u64):=by kernel_rfl
 have c1:Go.Proofs.Tryz.prog.cellsOf 3=1:=by kernel_rfl
 have c2:Go.Proofs.Tryz.prog.cellsOf 165=7:=by kernel_rfl
 have c3:Go.Proofs.Tryz.prog.cellsOf 4=1:=by kernel_rfl
 have c4:Go.Proofs.Tryz.prog.cellsOf 27=1:=by kernel_rfl
 have c5:Go.Proofs.Tryz.prog.cellsOf 187=4:=by kernel_rfl
 have t1:=Go.Lib.cells_of_tab (k:=.i64) (zs:=[5,7,13,17,19,31,61]) u1 u3 c1 c2 hd
 have hfs:∃ f0 f1 f2 f3:Field,Go.Proofs.Tryz.prog.underlying 187=some (.struct #[f0,f1,f2,f3])∧(f0.type=3∧f0.offset=0)∧(f1.type=3∧f1.offset=1)∧(f2.type=4∧f2.offset=2)∧(f3.type=27∧f3.offset=3):=
  ⟨_,_,_,_,Go.Proofs.Tryz.underlying187,⟨by kernel_rfl,by kernel_rfl⟩,⟨by kernel_rfl,by kernel_rfl⟩,⟨by kernel_rfl,by kernel_rfl⟩,⟨by kernel_rfl,by kernel_rfl⟩⟩
 obtain ⟨f0,f1,f2,f3,hfs,⟨ft0,fo0⟩,⟨ft1,fo1⟩,⟨ft2,fo2⟩,⟨ft3,fo3⟩⟩:=hfs
 obtain ⟨xs,n,_,hx,hl,hlen,hf⟩:=DataW.trod_struct hfs hd'
 have t2:cs'.toList=[.int .i64 2,.int .i64 0,.bool false,.int .u64 0]:=by
  rw [c5] at hl
  match xs,hlen with
  | [y0,y1,y2,y3],_ =>
  have g0:=hf 0 f0 rfl
  have g1:=hf 1 f1 rfl
  have g2:=hf 2 f2 rfl
  have g3:=hf 3 f3 rfl
  simp only [ft0,fo0,ft1,fo1,ft2,fo2,ft3,fo3,c1,c3,c4] at g0 g1 g2 g3
  obtain ⟨a0,b0,d0,_⟩:=DataW.trod_int u3 g0
  obtain ⟨a1,b1,d1,_⟩:=DataW.trod_int u3 g1
  obtain ⟨a2,b2,d2⟩:=DataW.trod_bool u4 g2
  obtain ⟨a3,b3,d3,_⟩:=DataW.trod_int u5 g3
  match hcs:cs'.toList,hl with
  | [z0,z1,z2,z3],_ =>
  rw [hcs] at b0 b1 b2 b3
  simp at b0 b1 b2 b3
  subst b0 b1 b2 b3
  rw [d0,d1,d2,d3] at hx
  simp [Rows.laid_privity_typecheck_truth] at hx
  obtain ⟨⟨rfl,rfl,rfl,rfl⟩,_⟩:=hx
  rfl
 refine wrG fun g cells hm=>?_
 simp only [Zgv,List.mem_cons,List.not_mem_nil,or_false,Prod.mk.injEq] at hm
 rcases hm with ⟨rfl,rfl⟩ | ⟨rfl,rfl⟩
 ·refine Zv9 (by simp) fun j v hj=>?_
  rw [World.var?_cell hg hvar j,← Array.getElem?_toList,t1]
  match j,hj with
  | 0,hj | 1,hj | 2,hj | 3,hj | 4,hj | 5,hj | 6,hj=>simp at hj; subst hj; rfl
  | j + 7,hj=>simp at hj
 ·refine Zv9 (by simp) fun j v hj=>?_
  rw [World.var?_cell hg' hvar' j,← Array.getElem?_toList,t2]
  match j,hj with
  | 0,hj | 1,hj | 2,hj | 3,hj=>simp at hj; subst hj; rfl
  | j + 4,hj=>simp at hj
end Go.Ab.YtihjhelbdbeokaaGreatDoor
