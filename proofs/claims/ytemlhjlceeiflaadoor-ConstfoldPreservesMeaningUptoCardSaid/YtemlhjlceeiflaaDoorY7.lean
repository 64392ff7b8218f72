/- Part of a proof:  -/
import Derived.Test.YtemlhjlceeiflaaDoorY3
import Derived.Test.YtemlhjlceeiflaaDoorY6
import Derived.Test.YtemlhjlceeiflaaDoorY5
import Derived.ProofKit
set_option maxRecDepth 100000
namespace Go.Ab.YtemlhjlceeiflaaDoor
def etA:Tr:=(.node 60 ir60 (.node 37 ir37 (.node 24 ir24 (.node 14 ir14 (.node 8 ir8 (.node 5 ir5 .nil .nil) (.node 13 ir13 .nil .nil)) (.node 17 ir17 (.node 15 ir15 .nil .nil) (.node 19 ir19 .nil .nil))) (.node 28 ir28 (.node 26 ir26 (.node 25 ir25 .nil .nil) (.node 27 ir27 .nil .nil)) (.node 31 ir31 (.node 29 ir29 .nil .nil) (.node 32 ir32 .nil .nil)))) (.node 49 ir49 (.node 45 ir45 (.node 43 ir43 (.node 42 ir42 .nil .nil) (.node 44 ir44 .nil .nil)) (.node 47 ir47 (.node 46 ir46 .nil .nil) (.node 48 ir48 .nil .nil))) (.node 54 ir54 (.node 51 ir51 (.node 50 ir50 .nil .nil) (.node 53 ir53 .nil .nil)) (.node 56 ir56 (.node 55 ir55 .nil .nil) .nil)))) (.node 77 ir77 (.node 69 ir69 (.node 65 ir65 (.node 62 ir62 (.node 61 ir61 .nil .nil) (.node 64 ir64 .nil .nil)) (.node 67 ir67 (.node 66 ir66 .nil .nil) (.node 68 ir68 .nil .nil))) (.node 73 ir73 (.node 71 ir71 (.node 70 ir70 .nil .nil) (.node 72 ir72 .nil .nil)) (.node 75 ir75 (.node 74 ir74 .nil .nil) (.node 76 ir76 .nil .nil)))) (.node 90 ir90 (.node 81 ir81 (.node 79 ir79 (.node 78 ir78 .nil .nil) (.node 80 ir80 .nil .nil)) (.node 83 ir83 (.node 82 ir82 .nil .nil) (.node 89 ir89 .nil .nil))) (.node 94 ir94 (.node 92 ir92 (.node 91 ir91 .nil .nil) (.node 93 ir93 .nil .nil)) (.node 103 ir103 (.node 95 ir95 .nil .nil) .nil)))))
theorem etA_5:env.ext 5=none∧env.ir 5=some ir5:=⟨rfl,by kernel_rfl⟩
theorem etA_8:env.ext 8=none∧env.ir 8=some ir8:=⟨rfl,by kernel_rfl⟩
theorem etA_13:env.ext 13=none∧env.ir 13=some ir13:=⟨rfl,by kernel_rfl⟩
theorem etA_14:env.ext 14=none∧env.ir 14=some ir14:=⟨rfl,by kernel_rfl⟩
theorem etA_15:env.ext 15=none∧env.ir 15=some ir15:=⟨rfl,by kernel_rfl⟩
theorem etA_17:env.ext 17=none∧env.ir 17=some ir17:=⟨rfl,by kernel_rfl⟩
theorem etA_19:env.ext 19=none∧env.ir 19=some ir19:=⟨rfl,by kernel_rfl⟩
theorem etA_24:env.ext 24=none∧env.ir 24=some ir24:=⟨rfl,by kernel_rfl⟩
theorem etA_25:env.ext 25=none∧env.ir 25=some ir25:=⟨rfl,by kernel_rfl⟩
theorem etA_26:env.ext 26=none∧env.ir 26=some ir26:=⟨rfl,by kernel_rfl⟩
theorem etA_27:env.ext 27=none∧env.ir 27=some ir27:=⟨rfl,by kernel_rfl⟩
theorem etA_28:env.ext 28=none∧env.ir 28=some ir28:=⟨rfl,by kernel_rfl⟩
theorem etA_29:env.ext 29=none∧env.ir 29=some ir29:=⟨rfl,by kernel_rfl⟩
theorem etA_31:env.ext 31=none∧env.ir 31=some ir31:=⟨rfl,by kernel_rfl⟩
theorem etA_32:env.ext 32=none∧env.ir 32=some ir32:=⟨rfl,by kernel_rfl⟩
theorem etA_37:env.ext 37=none∧env.ir 37=some ir37:=⟨rfl,by kernel_rfl⟩
theorem etA_42:env.ext 42=none∧env.ir 42=some ir42:=⟨rfl,by kernel_rfl⟩
theorem etA_43:env.ext 43=none∧env.ir 43=some ir43:=⟨rfl,by kernel_rfl⟩
theorem etA_44:env.ext 44=none∧env.ir 44=some ir44:=⟨rfl,by kernel_rfl⟩
theorem etA_45:env.ext 45=none∧env.ir 45=some ir45:=⟨rfl,by kernel_rfl⟩
theorem etA_46:env.ext 46=none∧env.ir 46=some ir46:=⟨rfl,by kernel_rfl⟩
theorem etA_47:env.ext 47=none∧env.ir 47=some ir47:=⟨rfl,by kernel_rfl⟩
theorem etA_48:env.ext 48=none∧env.ir 48=some ir48:=⟨rfl,by kernel_rfl⟩
theorem etA_49:env.ext 49=none∧env.ir 49=some ir49:=⟨rfl,by kernel_rfl⟩
theorem etA_50:env.ext 50=none∧env.ir 50=some ir50:=⟨rfl,by kernel_rfl⟩
theorem etA_51:env.ext 51=none∧env.ir 51=some ir51:=⟨rfl,by kernel_rfl⟩
theorem etA_53:env.ext 53=none∧env.ir 53=some ir53:=⟨rfl,by kernel_rfl⟩
theorem etA_54:env.ext 54=none∧env.ir 54=some ir54:=⟨rfl,by kernel_rfl⟩
theorem etA_55:env.ext 55=none∧env.ir 55=some ir55:=⟨rfl,by kernel_rfl⟩
theorem etA_56:env.ext 56=none∧env.ir 56=some ir56:=⟨rfl,by kernel_rfl⟩
theorem etA_60:env.ext 60=none∧env.ir 60=some ir60:=⟨rfl,by kernel_rfl⟩
theorem etA_61:env.ext 61=none∧env.ir 61=some ir61:=⟨rfl,by kernel_rfl⟩
theorem etA_62:env.ext 62=none∧env.ir 62=some ir62:=⟨rfl,by kernel_rfl⟩
theorem etA_64:env.ext 64=none∧env.ir 64=some ir64:=⟨rfl,by kernel_rfl⟩
theorem etA_65:env.ext 65=none∧env.ir 65=some ir65:=⟨rfl,by kernel_rfl⟩
theorem etA_66:env.ext 66=none∧env.ir 66=some ir66:=⟨rfl,by kernel_rfl⟩
theorem etA_67:env.ext 67=none∧env.ir 67=some ir67:=⟨rfl,by kernel_rfl⟩
theorem etA_68:env.ext 68=none∧env.ir 68=some ir68:=⟨rfl,by kernel_rfl⟩
theorem etA_69:env.ext 69=none∧env.ir 69=some ir69:=⟨rfl,by kernel_rfl⟩
theorem etA_70:env.ext 70=none∧env.ir 70=some ir70:=⟨rfl,by kernel_rfl⟩
theorem etA_71:env.ext 71=none∧env.ir 71=some ir71:=⟨rfl,by kernel_rfl⟩
theorem etA_72:env.ext 72=none∧env.ir 72=some ir72:=⟨rfl,by kernel_rfl⟩
theorem etA_73:env.ext 73=none∧env.ir 73=some ir73:=⟨rfl,by kernel_rfl⟩
theorem etA_74:env.ext 74=none∧env.ir 74=some ir74:=⟨rfl,by kernel_rfl⟩
theorem etA_75:env.ext 75=none∧env.ir 75=some ir75:=⟨rfl,by kernel_rfl⟩
theorem etA_76:env.ext 76=none∧env.ir 76=some ir76:=⟨rfl,by kernel_rfl⟩
theorem etA_77:env.ext 77=none∧env.ir 77=some ir77:=⟨rfl,by kernel_rfl⟩
theorem etA_78:env.ext 78=none∧env.ir 78=some ir78:=⟨rfl,by kernel_rfl⟩
theorem etA_79:env.ext 79=none∧env.ir 79=some ir79:=⟨rfl,by kernel_rfl⟩
theorem etA_80:env.ext 80=none∧env.ir 80=some ir80:=⟨rfl,by kernel_rfl⟩
theorem etA_81:env.ext 81=none∧env.ir 81=some ir81:=⟨rfl,by kernel_rfl⟩
theorem etA_82:env.ext 82=none∧env.ir 82=some ir82:=⟨rfl,by kernel_rfl⟩
theorem etA_83:env.ext 83=none∧env.ir 83=some ir83:=⟨rfl,by kernel_rfl⟩
theorem etA_89:env.ext 89=none∧env.ir 89=some ir89:=⟨rfl,by kernel_rfl⟩
theorem etA_90:env.ext 90=none∧env.ir 90=some ir90:=⟨rfl,by kernel_rfl⟩
theorem etA_91:env.ext 91=none∧env.ir 91=some ir91:=⟨rfl,by kernel_rfl⟩
theorem etA_92:env.ext 92=none∧env.ir 92=some ir92:=⟨rfl,by kernel_rfl⟩
theorem etA_93:env.ext 93=none∧env.ir 93=some ir93:=⟨rfl,by kernel_rfl⟩
theorem etA_94:env.ext 94=none∧env.ir 94=some ir94:=⟨rfl,by kernel_rfl⟩
theorem etA_95:env.ext 95=none∧env.ir 95=some ir95:=⟨rfl,by kernel_rfl⟩
theorem etA_103:env.ext 103=none∧env.ir 103=some ir103:=⟨rfl,by kernel_rfl⟩
theorem etA_all:etA.all (fun n F=>env.ext n=none∧env.ir n=some F):=⟨etA_60,⟨etA_37,⟨etA_24,⟨etA_14,⟨etA_8,⟨etA_5,trivial,trivial⟩,⟨etA_13,trivial,trivial⟩⟩,⟨etA_17,⟨etA_15,trivial,trivial⟩,⟨etA_19,trivial,trivial⟩⟩⟩,⟨etA_28,⟨etA_26,⟨etA_25,trivial,trivial⟩,⟨etA_27,trivial,trivial⟩⟩,⟨etA_31,⟨etA_29,trivial,trivial⟩,⟨etA_32,trivial,trivial⟩⟩⟩⟩,⟨etA_49,⟨etA_45,⟨etA_43,⟨etA_42,trivial,trivial⟩,⟨etA_44,trivial,trivial⟩⟩,⟨etA_47,⟨etA_46,trivial,trivial⟩,⟨etA_48,trivial,trivial⟩⟩⟩,⟨etA_54,⟨etA_51,⟨etA_50,trivial,trivial⟩,⟨etA_53,trivial,trivial⟩⟩,⟨etA_56,⟨etA_55,trivial,trivial⟩,trivial⟩⟩⟩⟩,⟨etA_77,⟨etA_69,⟨etA_65,⟨etA_62,⟨etA_61,trivial,trivial⟩,⟨etA_64,trivial,trivial⟩⟩,⟨etA_67,⟨etA_66,trivial,trivial⟩,⟨etA_68,trivial,trivial⟩⟩⟩,⟨etA_73,⟨etA_71,⟨etA_70,trivial,trivial⟩,⟨etA_72,trivial,trivial⟩⟩,⟨etA_75,⟨etA_74,trivial,trivial⟩,⟨etA_76,trivial,trivial⟩⟩⟩⟩,⟨etA_90,⟨etA_81,⟨etA_79,⟨etA_78,trivial,trivial⟩,⟨etA_80,trivial,trivial⟩⟩,⟨etA_83,⟨etA_82,trivial,trivial⟩,⟨etA_89,trivial,trivial⟩⟩⟩,⟨etA_94,⟨etA_92,⟨etA_91,trivial,trivial⟩,⟨etA_93,trivial,trivial⟩⟩,⟨etA_103,⟨etA_95,trivial,trivial⟩,trivial⟩⟩⟩⟩⟩
theorem etA_look:∀ f F,etA.find f=some F→env.ext f=none∧env.ir f=some F:=fun _ _ h=>Tr.find_all etA_all h
end Go.Ab.YtemlhjlceeiflaaDoor
set_option linter.unusedVariables false
set_option linter.unusedSimpArgs false
namespace Go.Ab
inductive Ty (P:Program):TypeId→List V→Prop
 | bool {t:TypeId} (ht:P.underlying t=some .bool) (b:Bool):Ty P t [.bool b]
 | int {t:TypeId} {k:IntKind} (ht:P.underlying t=some (.int k)) (n:Int) (hn:(Lit.int k n).wf=true):Ty P t [.int k n]
 | str {t:TypeId} (ht:P.underlying t=some .string) (s:ByteArray) (hs:s.size ≤ maxLen):Ty P t [.str s]
 | slice {t e:TypeId} {ag:Bool} (ht:P.underlying t=some (.slice e)) (ha:aggT P e=some ag) (css:List (List V)) (hc:∀ cs ∈ css,Ty P e cs) (hl:css.length ≤ maxLen):Ty P t [.vec (css.map (mkEl ag)) .any]
 | struct {t:TypeId} {fs:Array Field} (ht:P.underlying t=some (.struct fs)) (parts:List (List V)) (hl:parts.length=fs.size) (hp:∀ (i:Nat) (f:Field) (cs:List V),fs[i]?=some f→parts[i]?=some cs→Ty P f.type cs):Ty P t parts.flatten
 | array {t e:TypeId} {n:Nat} (ht:P.underlying t=some (.array n e)) (parts:List (List V)) (hl:parts.length=n) (hp:∀ cs ∈ parts,Ty P e cs):Ty P t parts.flatten
def tiles (P:Program):List Field→Nat→Option Nat
 | [],n=>some n
 | f :: fs,n=>if f.offset=n then tiles P fs (n + P.cellsOf f.type) else none
def closedT (P:Program) (ts:List TypeId):Bool:=ts.all fun t =>
 match P.underlying t with
 | some .bool | some (.int _) | some .string=>P.cellsOf t == 1
 | some (.slice e)=>ts.contains e && decide (0 < P.cellsOf e) && (P.cellsOf t == 1)
 | some (.struct fs)=>fs.toList.all (fun f=>ts.contains f.type) && (tiles P fs.toList 0 == some (P.cellsOf t))
 | some (.array n e)=>ts.contains e && (P.cellsOf t == n * P.cellsOf e)
 | _=>false
theorem exists_list {α:Type} {p:Nat→α→Prop}:∀ (n:Nat),(∀ i,i < n→∃ a,p i a)→∃ l:List α,l.length=n∧∀ (i:Nat) (a:α),l[i]?=some a→p i a
 | 0,_=>⟨[],rfl,fun i a h=>by simp at h⟩
 | n + 1,h=>by
  obtain ⟨l,hl,hp⟩:=exists_list n (fun i hi=>h i (by omega))
  obtain ⟨a,ha⟩:=h n (by omega)
  refine ⟨l ++ [a],by simp [hl],fun i b hb=>?_⟩
  rcases Nat.lt_trichotomy i n with hi | hi | hi
  ·rw [List.getElem?_append_left (by omega)] at hb; exact hp i b hb
  ·subst hi
   rw [List.getElem?_append_right (by omega),hl] at hb
   simp at hb; subst hb; exact ha
  ·rw [List.getElem?_eq_none (by simp; omega)] at hb; simp at hb
theorem mapM_list {α β:Type} {f:α→Option β}:∀ {xs:List α} {l:List β},xs.mapM f=some l→l.length=xs.length∧∀ (i:Nat) (x:α),xs[i]?=some x→∃ a,f x=some a∧l[i]?=some a
 | [],l,h=>by
  simp at h; subst h
  exact ⟨rfl,fun i x hx=>by simp at hx⟩
 | y :: xs,l,h=>by
  rw [List.mapM_cons] at h
  simp only [Option.bind_eq_bind,Option.pure_def,Option.bind_eq_some_iff,Option.some.injEq] at h
  obtain ⟨b,hb,bs,hbs,rfl⟩:=h
  obtain ⟨h1,h2⟩:=mapM_list hbs
  refine ⟨by simp [h1],fun i x hx=>?_⟩
  cases i with
  | zero=>simp at hx; subst hx; exact ⟨b,hb,rfl⟩
  | succ i=>simpa using h2 i x (by simpa using hx)
theorem mapM_range {α:Type} {f:Nat→Option α} {n:Nat} {l:List α} (h:(List.range n).mapM f=some l):l.length=n∧∀ i,i < n→∃ a,f i=some a∧l[i]?=some a:=by
 obtain ⟨h1,h2⟩:=mapM_list h
 exact ⟨by simpa using h1,fun i hi=>h2 i i (by simp [hi])⟩
def limOf (W:World) (b:Nat):Nat:=match W.heap[b]? with
 | some (.cells c _ _)=>c.size
 | _=>0
def k0 (W:World):Ctx:=⟨fun _=>0,limOf W,0⟩
def h0:H:=⟨fun _=>none,0⟩
theorem cell_lim {W:World} {a:Addr} {v:Value} (h:W.cell? a=some v):a.off < limOf W a.block:=by
 unfold World.cell? at h
 unfold limOf
 split at h
 ·rename_i c _ _ hb
  rw [hb]
  split at h
  ·simp at h
  ·exact (Array.getElem?_eq_some_iff.1 h).1
 ·simp at h
variable {H':Type} {enc:TypeId × Value→H'} {P:Program} {W:World} {ts:List TypeId}
theorem closed_at (hc:closedT P ts=true) {t:TypeId} (ht:ts.contains t=true):(match P.underlying t with
 | some .bool | some (.int _) | some .string=>P.cellsOf t == 1
 | some (.slice e)=>ts.contains e && decide (0 < P.cellsOf e) && (P.cellsOf t == 1)
 | some (.struct fs)=>fs.toList.all (fun f=>ts.contains f.type) && (tiles P fs.toList 0 == some (P.cellsOf t))
 | some (.array n e)=>ts.contains e && (P.cellsOf t == n * P.cellsOf e)
 | _=>false)=true:=by
 unfold closedT at hc
 rw [List.all_eq_true] at hc
 exact hc t (by simpa using ht)
theorem closed_agg (hc:closedT P ts=true) {t:TypeId} (ht:ts.contains t=true):∃ ag,aggT P t=some ag∧(ag=false→P.cellsOf t=1):=by
 have h:=closed_at hc ht
 unfold aggT
 split at h
 ·rename_i hu; rw [hu]; exact ⟨false,rfl,fun _=>by simpa using h⟩
 ·rename_i hu; rw [hu]; exact ⟨false,rfl,fun _=>by simpa using h⟩
 ·rename_i hu; rw [hu]; exact ⟨false,rfl,fun _=>by simpa using h⟩
 ·rename_i hu; rw [hu]
  simp only [Bool.and_eq_true,beq_iff_eq] at h
  exact ⟨false,rfl,fun _=>h.2⟩
 ·rename_i hu; rw [hu]; exact ⟨true,rfl,fun h=>by cases h⟩
 ·rename_i hu; rw [hu]; exact ⟨true,rfl,fun h=>by cases h⟩
 ·cases h
theorem crs_nil {k:Ctx} {w:World}:CRs k w [] []:=⟨rfl,fun j v h=>by simp at h⟩
theorem crs_one {k:Ctx} {w:World} {v:V} {x:Value} (h:VR k w v x) (ho:x.oneCell'=true):CRs k w [v] [x]:=by
 refine ⟨rfl,fun j u hj=>?_⟩
 cases j with
 | zero=>simp at hj; subst hj; exact ⟨x,rfl,h,ho⟩
 | succ j=>simp at hj
theorem crs_append {k:Ctx} {w:World} {v v':List V} {x x':List Value} (h:CRs k w v x) (h':CRs k w v' x'):CRs k w (v ++ v') (x ++ x'):=by
 refine ⟨by simp [h.1,h'.1],fun j u hj=>?_⟩
 rcases Nat.lt_or_ge j v.length with h1 | h1
 ·rw [List.getElem?_append_left h1] at hj
  obtain ⟨y,e,r⟩:=h.2 j u hj
  exact ⟨y,by rw [List.getElem?_append_left (by rw [h.1]; exact h1)]; exact e,r⟩
 ·rw [List.getElem?_append_right h1] at hj
  obtain ⟨y,e,r⟩:=h'.2 _ u hj
  exact ⟨y,by rw [List.getElem?_append_right (by rw [h.1]; exact h1),h.1]; exact e,r⟩
theorem vr_not_agg {k:Ctx} {w:World} {v:V} {x:Value} (h:VR k w v x) (ho:x.oneCell'=true):v.cells=[v]:=by
 cases h <;> first | rfl | simp [Value.oneCell'] at ho
theorem crs_parts {k:Ctx} {w:World}:∀ {parts:List (List V)} {rows:List (List Value)},rows.length=parts.length→(∀ (i:Nat) (vs:List V) (xs:List Value),parts[i]?=some vs→rows[i]?=some xs→CRs k w vs xs)→CRs k w parts.flatten rows.flatten
 | [],[],_,_=>crs_nil
 | [],_ :: _,h,_=>by simp at h
 | _ :: _,[],h,_=>by simp at h
 | p :: ps,r :: rs,h,hp=>by
  rw [List.flatten_cons,List.flatten_cons]
  exact crs_append (hp 0 p r rfl rfl) (crs_parts (by simpa using h) (fun i vs xs h1 h2=>hp (i + 1) vs xs (by simpa using h1) (by simpa using h2)))
theorem tile_rows {P:Program}:∀ {fs:List Field} {n m:Nat} {cs:List Value},tiles P fs n=some m→cs.length=m→cs.drop n=(fs.map fun f=>(cs.drop f.offset).take (P.cellsOf f.type)).flatten∧n ≤ m
 | [],n,m,cs,h,hl=>by
  simp only [tiles,Option.some.injEq] at h; subst h
  exact ⟨by rw [List.drop_eq_nil_of_le (by omega)]; rfl,Nat.le_refl _⟩
 | f :: fs,n,m,cs,h,hl=>by
  simp only [tiles] at h
  split at h
  ·rename_i ho
   obtain ⟨h1,h2⟩:=tile_rows h hl
   refine ⟨?_,by omega⟩
   rw [List.map_cons,List.flatten_cons,← h1,ho,← List.drop_drop,List.take_append_drop]
  ·simp at h
theorem chop_rows {z:Nat}:∀ {n:Nat} {cs:List Value},cs.length=n * z→cs=((List.range n).map fun i=>(cs.drop (i * z)).take z).flatten
 | 0,cs,h=>by simp at h; subst h; rfl
 | n + 1,cs,h=>by
  rw [List.range_succ_eq_map,List.map_cons,List.flatten_cons,List.map_map]
  have h1:=chop_rows (z:=z) (n:=n) (cs:=cs.drop z) (by rw [List.length_drop,h,Nat.succ_mul]; omega)
  have h2:((List.range n).map ((fun i=>(cs.drop (i * z)).take z) ∘ Nat.succ))=(List.range n).map fun i=>((cs.drop z).drop (i * z)).take z:=by
   apply List.map_congr_left
   intro i _
   simp only [Function.comp_def,List.drop_drop,Nat.succ_mul]
   rw [Nat.add_comm]
  rw [h2,← h1]
  simp
end Go.Ab
namespace Go.Ab
open Go.RowKit Go.ChangeShapes
section
variable {H':Type} {enc:TypeId × Value→H'} {P:Program} {W:World} {ts:List TypeId}
def TyArg (P:Program) (t:TypeId) (v:V):Prop:=∃ ag cs,aggT P t=some ag∧v=mkEl ag cs∧Ty P t cs
def TyArgs (P:Program):List TypeId→List V→Prop
 | [],vs=>vs=[]
 | t :: tys,vs=>∃ v r,vs=v :: r∧TyArg P t v∧TyArgs P tys r
theorem trodAll_below (hl:laidOutB P=true) {W':World} (hb:Below W.heap.size W W'):∀ {tys:List TypeId} {vs:List Value} {ds:List (DataW H')} {ps:List MemPlace},(∀ t ∈ tys,P.readableRec t=true∧t < P.types.size) →
  DataW.TrodAll enc P W 0 (fun _=>true) true tys vs ds ps→DataW.TrodAll enc P W' 0 (fun b=>decide (b < W.heap.size)) true tys vs ds ps
 | [],[],[],ps,_,h=>h
 | [],_ :: _,_,_,_,h=>h.elim
 | [],[],_ :: _,_,_,h=>h.elim
 | _ :: _,[],_,_,_,h=>h.elim
 | _ :: _,_ :: _,[],_,_,h=>h.elim
 | t :: tys,v :: vs,d :: ds,ps,hr,h=>by
  have hlt:=h.lt
  obtain ⟨p,q,h1,h2,rfl⟩:=h
  exact ⟨p,q,Below.trod hl (hr t (by simp)).1 (hr t (by simp)).2 h1 hb (fun x hx=>hlt x (by simp [hx])),trodAll_below hl hb (fun t ht=>hr t (by simp [ht])) h2,rfl⟩
theorem trodAll_len:∀ {tys:List TypeId} {vs:List Value} {ds:List (DataW H')} {ps:List MemPlace},DataW.TrodAll enc P W 0 (fun _=>true) true tys vs ds ps→ds.length=tys.length
 | [],[],[],_,_=>rfl
 | [],_ :: _,_,_,h=>h.elim
 | [],[],_ :: _,_,h=>h.elim
 | _ :: _,[],_,_,h=>h.elim
 | _ :: _,_ :: _,[],_,h=>h.elim
 | t :: tys,v :: vs,d :: ds,ps,h=>by
  obtain ⟨p,q,h1,h2,_⟩:=h
  simp [trodAll_len h2]
end
end Go.Ab
set_option maxRecDepth 100000
namespace Go.Ab.YtemlhjlceeiflaaDoor
theorem awake_true:yieldsTrue (callsE etA.find 400 5 [] h0)=true:=by kernel_rfl
theorem awake31 {K:Out→H→Prop} (hK:∀ h',K (.ret (.bool true)) h'):R 5 [] h0 K:=runs_true etA_look awake_true hK
end Go.Ab.YtemlhjlceeiflaaDoor
namespace Go.Ab
theorem slc_take {xs:List V} {c:Cap} {i sz:Nat} {k:IntKind} (hi:i ≤ xs.length) (hc:c ≠ .full):slcV (.vec xs c) none (some (.int k (i:Int))) none sz=some (.vec (xs.take i) .any):=by
 simp only [slcV,bound]
 rw [if_pos ⟨Int.natCast_nonneg i,by omega⟩]
 simp [hc]
theorem slc_drop {xs:List V} {c:Cap} {i sz:Nat} {k:IntKind} (hi:i ≤ xs.length) (hz:∀ e ∈ xs,e.cells.length=sz) (hc:c ≠ .full):slcV (.vec xs c) (some (.int k (i:Int))) none none sz=some (.vec (xs.drop i) .any):=by
 simp only [slcV,bound]
 rw [if_pos ⟨Int.natCast_nonneg i,by omega⟩]
 simp only [Int.toNat_natCast]
 rw [if_pos (.inr hz),List.take_length]
 simp [hc]
theorem over_one {cs:List V} {i:Nat} {v:V} (hi:i < cs.length):over cs i [v]=cs.set i v:=by
 unfold over
 rw [List.set_eq_take_append_cons_drop,if_pos hi]
 simp
def tab (n:Nat) (f:Nat→V):List V:=(List.range n).map f
end Go.Ab
namespace Go.Ab
section
variable {P:Program} {t e:TypeId} {v:V} {k:IntKind}
theorem ty_int {cs:List V} (ht:P.underlying t=some (.int k)) (h:Ty P t cs):∃ n,cs=[.int k n]∧(Lit.int k n).wf=true:=by
 cases h with
 | int hu n hn=>rw [ht] at hu; cases hu; exact ⟨n,rfl,hn⟩
 | bool hu=>rw [ht] at hu; cases hu
 | str hu=>rw [ht] at hu; cases hu
 | slice hu=>rw [ht] at hu; cases hu
 | struct hu=>rw [ht] at hu; cases hu
 | array hu=>rw [ht] at hu; cases hu
theorem ty_str {cs:List V} (ht:P.underlying t=some .string) (h:Ty P t cs):∃ s:ByteArray,cs=[.str s]∧s.size ≤ maxLen:=by
 cases h with
 | int hu n hn=>rw [ht] at hu; cases hu
 | bool hu b=>rw [ht] at hu; cases hu
 | str hu s hs=>exact ⟨s,rfl,hs⟩
 | slice hu=>rw [ht] at hu; cases hu
 | struct hu=>rw [ht] at hu; cases hu
 | array hu=>rw [ht] at hu; cases hu
theorem ty_slice {cs:List V} (ht:P.underlying t=some (.slice e)) (h:Ty P t cs):∃ (ag:Bool) (css:List (List V)),aggT P e=some ag∧cs=[.vec (css.map (mkEl ag)) .any]∧(∀ cs ∈ css,Ty P e cs)∧css.length ≤ maxLen:=by
 cases h with
 | int hu n hn=>rw [ht] at hu; cases hu
 | bool hu b=>rw [ht] at hu; cases hu
 | str hu s hs=>rw [ht] at hu; cases hu
 | slice hu ha css hc hl=>rw [ht] at hu; cases hu; exact ⟨_,css,ha,rfl,hc,hl⟩
 | struct hu=>rw [ht] at hu; cases hu
 | array hu=>rw [ht] at hu; cases hu
theorem ty_struct {cs:List V} {fs:Array Field} (ht:P.underlying t=some (.struct fs)) (h:Ty P t cs):∃ parts:List (List V),cs=parts.flatten∧parts.length=fs.size∧∀ (i:Nat) (f:Field) (cs:List V),fs[i]?=some f→parts[i]?=some cs→Ty P f.type cs:=by
 cases h with
 | int hu n hn=>rw [ht] at hu; cases hu
 | bool hu b=>rw [ht] at hu; cases hu
 | str hu s hs=>rw [ht] at hu; cases hu
 | slice hu ha css hc hl=>rw [ht] at hu; cases hu
 | struct hu parts hl hp=>rw [ht] at hu; cases hu; exact ⟨parts,rfl,hl,hp⟩
 | array hu=>rw [ht] at hu; cases hu
theorem agg_int (ht:P.underlying t=some (.int k)):aggT P t=some false:=by unfold aggT; rw [ht]
theorem agg_slice (ht:P.underlying t=some (.slice e)):aggT P t=some false:=by unfold aggT; rw [ht]
theorem agg_struct {fs:Array Field} (ht:P.underlying t=some (.struct fs)):aggT P t=some true:=by unfold aggT; rw [ht]
def Ns (k:IntKind) (l:List Int):List V:=l.map (V.int k)
theorem wf_u64 {n:Int} (h:(Lit.int .u64 n).wf=true):∃ m:Nat,n=m∧m < 18446744073709551616:=by
 simp [Lit.wf,IntKind.min,IntKind.max,IntKind.signed,IntKind.bits] at h
 exact ⟨n.toNat,by omega,by omega⟩
theorem wf_i64 {n:Int} (h:(Lit.int .i64 n).wf=true):-9223372036854775808 ≤ n∧n ≤ 9223372036854775807:=by
 simp [Lit.wf,IntKind.min,IntKind.max,IntKind.signed,IntKind.bits] at h
 omega
theorem map_ints {css:List (List V)} (he:P.underlying e=some (.int k)) (hc:∀ cs ∈ css,Ty P e cs):∃ l:List Int,css.map (mkEl false)=Ns k l∧l.length=css.length∧∀ n ∈ l,(Lit.int k n).wf=true:=by
 induction css with
 | nil=>exact ⟨[],rfl,rfl,by simp⟩
 | cons cs css ih =>
  obtain ⟨n,rfl,hn⟩:=ty_int he (hc cs (by simp))
  obtain ⟨l,h1,h2,h3⟩:=ih (fun cs h=>hc cs (by simp [h]))
  refine ⟨n :: l,by simp [h1,Ns,mkEl],by simp [h2],fun m hm=>?_⟩
  rcases List.mem_cons.1 hm with rfl | hm
  ·exact hn
  ·exact h3 m hm
theorem Ns_words {l:List Int} (h:∀ n ∈ l,(Lit.int .u64 n).wf=true):∃ ws:List Nat,Ns .u64 l=Ws ws∧ws.length=l.length∧∀ w ∈ ws,w < 18446744073709551616:=by
 induction l with
 | nil=>exact ⟨[],rfl,rfl,by simp⟩
 | cons n l ih =>
  obtain ⟨m,rfl,hm⟩:=wf_u64 (h n (by simp))
  obtain ⟨ws,h1,h2,h3⟩:=ih (fun n hn=>h n (by simp [hn]))
  refine ⟨m :: ws,by simp [Ns,Ws] at h1 ⊢; exact h1,by simp [h2],fun w hw=>?_⟩
  rcases List.mem_cons.1 hw with rfl | hw
  ·exact hm
  ·exact h3 w hw
theorem args_1v {vs:List V} (h:TyArgs P [t] vs):∃ a,vs=[a]∧TyArg P t a:=by
 obtain ⟨a,r,rfl,h1,rfl⟩:=h
 exact ⟨a,rfl,h1⟩
theorem args_2v {vs:List V} {t2:TypeId} (h:TyArgs P [t,t2] vs):∃ a b,vs=[a,b]∧TyArg P t a∧TyArg P t2 b:=by
 obtain ⟨a,r,rfl,h1,h2⟩:=h
 obtain ⟨b,rfl,h3⟩:=args_1v h2
 exact ⟨a,b,rfl,h1,h3⟩
end
end Go.Ab
namespace Go.Ab
inductive Exp where
 | mk (kind op:Int) (num:Nat) (name:ByteArray) (kids:List Exp)
mutual
def Exp.v:Exp→V
 | .mk k o n s ks=>.agg [I k,I o,W n,.str s,.vec (Exp.vs ks) .any]
def Exp.vs:List Exp→List V
 | []=>[]
 | e :: es=>e.v :: Exp.vs es
end
theorem Exp.vs_map:∀ l:List Exp,Exp.vs l=l.map Exp.v
 | []=>rfl
 | e :: es=>by rw [Exp.vs,Exp.vs_map es]; rfl
def Exp.kind:Exp→Int | .mk k _ _ _ _=>k
def Exp.op:Exp→Int | .mk _ o _ _ _=>o
def Exp.num:Exp→Nat | .mk _ _ n _ _=>n
def Exp.name:Exp→ByteArray | .mk _ _ _ s _=>s
def Exp.kids:Exp→List Exp | .mk _ _ _ _ ks=>ks
def Exp.cells (e:Exp):List V:=[I e.kind,I e.op,W e.num,.str e.name,.vec (e.kids.map Exp.v) .any]
theorem Exp.v_eq (e:Exp):e.v=.agg e.cells:=by
 cases e with
 | mk k o n s ks=>rw [Exp.v,Exp.vs_map]; rfl
theorem Exp.ind {P:Exp→Prop} (h:∀ k o n s ks,(∀ x ∈ ks,P x)→P (.mk k o n s ks)):∀ e,P e
 | .mk k o n s ks=>h k o n s ks fun x hx=>Exp.ind h x
inductive Stm where
 | mk (kind:Int) (name:ByteArray) (e:List Exp) (thn els:List Stm)
mutual
def Stm.v:Stm→V
 | .mk k s e a b=>.agg [I k,.str s,.vec (e.map Exp.v) .any,.vec (Stm.vs a) .any,.vec (Stm.vs b) .any]
def Stm.vs:List Stm→List V
 | []=>[]
 | e :: es=>e.v :: Stm.vs es
end
theorem Stm.vs_map:∀ l:List Stm,Stm.vs l=l.map Stm.v
 | []=>rfl
 | e :: es=>by rw [Stm.vs,Stm.vs_map es]; rfl
def Stm.kind:Stm→Int | .mk k _ _ _ _=>k
def Stm.name:Stm→ByteArray | .mk _ s _ _ _=>s
def Stm.e:Stm→List Exp | .mk _ _ e _ _=>e
def Stm.thn:Stm→List Stm | .mk _ _ _ a _=>a
def Stm.els:Stm→List Stm | .mk _ _ _ _ b=>b
def Stm.cells (s:Stm):List V:=[I s.kind,.str s.name,.vec (s.e.map Exp.v) .any,.vec (s.thn.map Stm.v) .any,.vec (s.els.map Stm.v) .any]
theorem Stm.v_eq (s:Stm):s.v=.agg s.cells:=by
 cases s with
 | mk k s e a b=>rw [Stm.v,Stm.vs_map,Stm.vs_map]; rfl
theorem Stm.ind {P:Stm→Prop} (h:∀ k s e a b,(∀ x ∈ a,P x)→(∀ x ∈ b,P x)→P (.mk k s e a b)):∀ s,P s
 | .mk k s e a b=>h k s e a b (fun x hx=>Stm.ind h x) (fun x hx=>Stm.ind h x)
structure InD where
 name:ByteArray
 frm:Int
 width:Int
 size:Int
def InD.cells (x:InD):List V:=[.str x.name,I x.frm,I x.width,I x.size]
def InD.v (x:InD):V:=.agg x.cells
structure ArD where
 name:ByteArray
 size:Int
def ArD.cells (x:ArD):List V:=[.str x.name,I x.size]
def ArD.v (x:ArD):V:=.agg x.cells
structure Prg where
 ins:List InD
 arrays:List ArD
 body:List Stm
def Prg.cells (p:Prg):List V:=[.vec (p.ins.map InD.v) .any,.vec (p.arrays.map ArD.v) .any,.vec (p.body.map Stm.v) .any]
def Prg.v (p:Prg):V:=.agg p.cells
def I64 (n:Int):Prop:=-9223372036854775808 ≤ n∧n ≤ 9223372036854775807
inductive EOk:Exp→Prop
 | mk {k o:Int} {n:Nat} {s:ByteArray} {ks:List Exp} (hk:I64 k) (ho:I64 o) (hn:n < 18446744073709551616) (hs:s.size ≤ maxLen) (hl:ks.length ≤ maxLen) (h:∀ x ∈ ks,EOk x):EOk (.mk k o n s ks)
inductive SOk:Stm→Prop
 | mk {k:Int} {s:ByteArray} {e:List Exp} {a b:List Stm} (hk:I64 k) (hs:s.size ≤ maxLen) (hle:e.length ≤ maxLen) (hla:a.length ≤ maxLen) (hlb:b.length ≤ maxLen) (he:∀ x ∈ e,EOk x) (ha:∀ x ∈ a,SOk x) (hb:∀ x ∈ b,SOk x):SOk (.mk k s e a b)
structure InOk (x:InD):Prop where
 f:I64 x.frm
 w:I64 x.width
 s:I64 x.size
 n:x.name.size ≤ maxLen
structure ArOk (x:ArD):Prop where
 s:I64 x.size
 n:x.name.size ≤ maxLen
structure POk (p:Prg):Prop where
 ins:∀ x ∈ p.ins,InOk x
 arrays:∀ x ∈ p.arrays,ArOk x
 body:∀ x ∈ p.body,SOk x
 li:p.ins.length ≤ maxLen
 la:p.arrays.length ≤ maxLen
 lb:p.body.length ≤ maxLen
section
variable {P:Program} {t te ti tw ts:TypeId}
theorem list_of {α:Type} {f:α→V} {Q:α→Prop} {css:List (List V)} (h:∀ cs ∈ css,∃ a,cs=(f a).cells∧Q a∧∃ l,f a=.agg l):∃ l:List α,css.map (mkEl true)=l.map f∧l.length=css.length∧∀ x ∈ l,Q x:=by
 induction css with
 | nil=>exact ⟨[],rfl,rfl,by simp⟩
 | cons cs css ih =>
  obtain ⟨a,h1,h2,l',h5⟩:=h cs (by simp)
  obtain ⟨l,h3,h4,h6⟩:=ih (fun cs hc=>h cs (by simp [hc]))
  refine ⟨a :: l,?_,by simp [h4],fun x hx=>?_⟩
  ·rw [List.map_cons,List.map_cons,h3,h1,h5]; rfl
  ·rcases List.mem_cons.1 hx with rfl | hx
   ·exact h2
   ·exact h6 x hx
theorem parts_5 {fs:Array Field} {parts:List (List V)} {f0 f1 f2 f3 f4:Field} (hfs:fs=#[f0,f1,f2,f3,f4]) (hl:parts.length=fs.size) (hp:∀ (i:Nat) (f:Field) (cs:List V),fs[i]?=some f→parts[i]?=some cs→Ty P f.type cs) :
  ∃ a b c d e,parts=[a,b,c,d,e]∧Ty P f0.type a∧Ty P f1.type b∧Ty P f2.type c∧Ty P f3.type d∧Ty P f4.type e:=by
 subst hfs
 match parts,hl with
 | [a,b,c,d,e],_=>exact ⟨a,b,c,d,e,rfl,hp 0 f0 a rfl rfl,hp 1 f1 b rfl rfl,hp 2 f2 c rfl rfl,hp 3 f3 d rfl rfl,hp 4 f4 e rfl rfl⟩
theorem parts_4 {fs:Array Field} {parts:List (List V)} {f0 f1 f2 f3:Field} (hfs:fs=#[f0,f1,f2,f3]) (hl:parts.length=fs.size) (hp:∀ (i:Nat) (f:Field) (cs:List V),fs[i]?=some f→parts[i]?=some cs→Ty P f.type cs) :
  ∃ a b c d,parts=[a,b,c,d]∧Ty P f0.type a∧Ty P f1.type b∧Ty P f2.type c∧Ty P f3.type d:=by
 subst hfs
 match parts,hl with
 | [a,b,c,d],_=>exact ⟨a,b,c,d,rfl,hp 0 f0 a rfl rfl,hp 1 f1 b rfl rfl,hp 2 f2 c rfl rfl,hp 3 f3 d rfl rfl⟩
theorem parts_3 {fs:Array Field} {parts:List (List V)} {f0 f1 f2:Field} (hfs:fs=#[f0,f1,f2]) (hl:parts.length=fs.size) (hp:∀ (i:Nat) (f:Field) (cs:List V),fs[i]?=some f→parts[i]?=some cs→Ty P f.type cs) :
  ∃ a b c,parts=[a,b,c]∧Ty P f0.type a∧Ty P f1.type b∧Ty P f2.type c:=by
 subst hfs
 match parts,hl with
 | [a,b,c],_=>exact ⟨a,b,c,rfl,hp 0 f0 a rfl rfl,hp 1 f1 b rfl rfl,hp 2 f2 c rfl rfl⟩
theorem parts_2 {fs:Array Field} {parts:List (List V)} {f0 f1:Field} (hfs:fs=#[f0,f1]) (hl:parts.length=fs.size) (hp:∀ (i:Nat) (f:Field) (cs:List V),fs[i]?=some f→parts[i]?=some cs→Ty P f.type cs) :
  ∃ a b,parts=[a,b]∧Ty P f0.type a∧Ty P f1.type b:=by
 subst hfs
 match parts,hl with
 | [a,b],_=>exact ⟨a,b,rfl,hp 0 f0 a rfl rfl,hp 1 f1 b rfl rfl⟩
structure AstT (P:Program) (tE tEs tS tSs:TypeId) (e0 e1 e2 e3 e4 s0 s1 s2 s3 s4:Field):Prop where
 e:P.underlying tE=some (.struct #[e0,e1,e2,e3,e4])
 ek:P.underlying e0.type=some (.int .i64)
 eo:P.underlying e1.type=some (.int .i64)
 en:P.underlying e2.type=some (.int .u64)
 es:P.underlying e3.type=some .string
 eks:e4.type=tEs
 es2:P.underlying tEs=some (.slice tE)
 s:P.underlying tS=some (.struct #[s0,s1,s2,s3,s4])
 sk:P.underlying s0.type=some (.int .i64)
 sn:P.underlying s1.type=some .string
 se:s2.type=tEs
 sa:s3.type=tSs
 sb:s4.type=tSs
 ss:P.underlying tSs=some (.slice tS)
variable {tE tEs tS tSs:TypeId} {e0 e1 e2 e3 e4 s0 s1 s2 s3 s4:Field}
theorem ty_expr (hT:AstT P tE tEs tS tSs e0 e1 e2 e3 e4 s0 s1 s2 s3 s4) {t:TypeId} {cs:List V} (h:Ty P t cs):(t=tE→∃ e:Exp,cs=e.v.cells∧EOk e)∧(t=tEs→∃ l:List Exp,cs=[.vec (l.map Exp.v) .any]∧l.length ≤ maxLen∧∀ x ∈ l,EOk x):=by
 have hag:=agg_struct hT.e
 have uE:=hT.e
 have uEs:=hT.es2
 induction h with
 | bool ht b=>exact ⟨fun e=>(by subst e; rw [uE] at ht; cases ht),fun e=>(by subst e; rw [uEs] at ht; cases ht)⟩
 | int ht n hn=>exact ⟨fun e=>(by subst e; rw [uE] at ht; cases ht),fun e=>(by subst e; rw [uEs] at ht; cases ht)⟩
 | str ht s hs=>exact ⟨fun e=>(by subst e; rw [uE] at ht; cases ht),fun e=>(by subst e; rw [uEs] at ht; cases ht)⟩
 | @slice t e ag ht ha css hc hl ih =>
  refine ⟨fun h=>(by subst h; rw [uE] at ht; cases ht),fun h=>?_⟩
  subst h
  rw [uEs] at ht
  cases ht
  rw [hag] at ha
  cases ha
  obtain ⟨l,h1,h2,h3⟩:=list_of (f:=Exp.v) (Q:=EOk) (css:=css) (fun cs hcs=>by
   obtain ⟨e,h1,h2⟩:=(ih cs hcs).1 rfl
   exact ⟨e,h1,h2,e.cells,e.v_eq⟩)
  exact ⟨l,by rw [h1],by omega,h3⟩
 | @struct t fs ht parts hl hp ih =>
  refine ⟨fun h=>?_,fun h=>(by subst h; rw [uEs] at ht; cases ht)⟩
  subst h
  rw [uE] at ht
  cases ht
  obtain ⟨a,b,c,d,e,rfl,h0,h1,h2,h3,h4⟩:=parts_5 rfl hl hp
  obtain ⟨k,rfl,hk⟩:=ty_int hT.ek h0
  obtain ⟨o,rfl,ho⟩:=ty_int hT.eo h1
  obtain ⟨n,rfl,hn⟩:=ty_int hT.en h2
  obtain ⟨s,rfl,hs⟩:=ty_str hT.es h3
  obtain ⟨m,rfl,hm⟩:=wf_u64 hn
  obtain ⟨l,rfl,hl1,hl2⟩:=(ih 4 e4 _ rfl rfl).2 hT.eks
  refine ⟨.mk k o m s l,?_,.mk (wf_i64 hk) (wf_i64 ho) hm hs hl1 hl2⟩
  rw [Exp.v_eq]; rfl
 | array ht parts hl hp ih=>exact ⟨fun e=>(by subst e; rw [uE] at ht; cases ht),fun e=>(by subst e; rw [uEs] at ht; cases ht)⟩
theorem ty_stmt (hT:AstT P tE tEs tS tSs e0 e1 e2 e3 e4 s0 s1 s2 s3 s4) {t:TypeId} {cs:List V} (h:Ty P t cs):(t=tS→∃ e:Stm,cs=e.v.cells∧SOk e)∧(t=tSs→∃ l:List Stm,cs=[.vec (l.map Stm.v) .any]∧l.length ≤ maxLen∧∀ x ∈ l,SOk x):=by
 have hag:=agg_struct hT.s
 have uE:=hT.s
 have uEs:=hT.ss
 induction h with
 | bool ht b=>exact ⟨fun e=>(by subst e; rw [uE] at ht; cases ht),fun e=>(by subst e; rw [uEs] at ht; cases ht)⟩
 | int ht n hn=>exact ⟨fun e=>(by subst e; rw [uE] at ht; cases ht),fun e=>(by subst e; rw [uEs] at ht; cases ht)⟩
 | str ht s hs=>exact ⟨fun e=>(by subst e; rw [uE] at ht; cases ht),fun e=>(by subst e; rw [uEs] at ht; cases ht)⟩
 | @slice t e ag ht ha css hc hl ih =>
  refine ⟨fun h=>(by subst h; rw [uE] at ht; cases ht),fun h=>?_⟩
  subst h
  rw [uEs] at ht
  cases ht
  rw [hag] at ha
  cases ha
  obtain ⟨l,h1,h2,h3⟩:=list_of (f:=Stm.v) (Q:=SOk) (css:=css) (fun cs hcs=>by
   obtain ⟨e,h1,h2⟩:=(ih cs hcs).1 rfl
   exact ⟨e,h1,h2,e.cells,e.v_eq⟩)
  exact ⟨l,by rw [h1],by omega,h3⟩
 | @struct t fs ht parts hl hp ih =>
  refine ⟨fun h=>?_,fun h=>(by subst h; rw [uEs] at ht; cases ht)⟩
  subst h
  rw [uE] at ht
  cases ht
  obtain ⟨a,b,c,d,e,rfl,h0,h1,h2,h3,h4⟩:=parts_5 rfl hl hp
  obtain ⟨k,rfl,hk⟩:=ty_int hT.sk h0
  obtain ⟨s,rfl,hs⟩:=ty_str hT.sn h1
  obtain ⟨l,rfl,hl1,hl2⟩:=(ty_expr hT h2).2 hT.se
  obtain ⟨l3,rfl,hl3,hl4⟩:=(ih 3 s3 _ rfl rfl).2 hT.sa
  obtain ⟨l5,rfl,hl5,hl6⟩:=(ih 4 s4 _ rfl rfl).2 hT.sb
  refine ⟨.mk k s l l3 l5,?_,.mk (wf_i64 hk) hs hl1 hl3 hl5 hl2 hl4 hl6⟩
  rw [Stm.v_eq]; rfl
 | array ht parts hl hp ih=>exact ⟨fun e=>(by subst e; rw [uE] at ht; cases ht),fun e=>(by subst e; rw [uEs] at ht; cases ht)⟩
theorem ty_in {tI:TypeId} {f0 f1 f2 f3:Field} (hI:P.underlying tI=some (.struct #[f0,f1,f2,f3])) (h0:P.underlying f0.type=some .string) (h1:P.underlying f1.type=some (.int .i64)) (h2:P.underlying f2.type=some (.int .i64)) (h3:P.underlying f3.type=some (.int .i64)) {cs:List V} (h:Ty P tI cs):∃ x:InD,cs=x.v.cells∧InOk x:=by
 obtain ⟨parts,rfl,hl,hp⟩:=ty_struct hI h
 obtain ⟨a,b,c,d,rfl,g0,g1,g2,g3⟩:=parts_4 rfl hl hp
 obtain ⟨s,rfl,hs⟩:=ty_str h0 g0
 obtain ⟨x,rfl,hx⟩:=ty_int h1 g1
 obtain ⟨y,rfl,hy⟩:=ty_int h2 g2
 obtain ⟨z,rfl,hz⟩:=ty_int h3 g3
 exact ⟨⟨s,x,y,z⟩,rfl,⟨wf_i64 hx,wf_i64 hy,wf_i64 hz,hs⟩⟩
theorem ty_ar {tA:TypeId} {f0 f1:Field} (hA:P.underlying tA=some (.struct #[f0,f1])) (h0:P.underlying f0.type=some .string) (h1:P.underlying f1.type=some (.int .i64)) {cs:List V} (h:Ty P tA cs):∃ x:ArD,cs=x.v.cells∧ArOk x:=by
 obtain ⟨parts,rfl,hl,hp⟩:=ty_struct hA h
 obtain ⟨a,b,rfl,g0,g1⟩:=parts_2 rfl hl hp
 obtain ⟨s,rfl,hs⟩:=ty_str h0 g0
 obtain ⟨x,rfl,hx⟩:=ty_int h1 g1
 exact ⟨⟨s,x⟩,rfl,⟨wf_i64 hx,hs⟩⟩
end
end Go.Ab
namespace Go.Ab
theorem Exp.v_mk {k o:Int} {n:Nat} {s:ByteArray} {ks:List Exp}:(Exp.mk k o n s ks).v=.agg [I k,I o,W n,.str s,.vec (ks.map Exp.v) .any]:=Exp.v_eq _
theorem Stm.v_mk {k:Int} {s:ByteArray} {e:List Exp} {a b:List Stm}:(Stm.mk k s e a b).v=.agg [I k,.str s,.vec (e.map Exp.v) .any,.vec (a.map Stm.v) .any,.vec (b.map Stm.v) .any]:=Stm.v_eq _
theorem Exp.v_clen {e:Exp}:e.v.cells.length=5:=by rw [Exp.v_eq]; rfl
theorem Stm.v_clen {e:Stm}:e.v.cells.length=5:=by rw [Stm.v_eq]; rfl
theorem InD.v_clen {e:InD}:e.v.cells.length=4:=rfl
theorem ArD.v_clen {e:ArD}:e.v.cells.length=2:=rfl
theorem Exp.v_tk {e:Exp}:List.take 5 e.v.cells=e.v.cells:=List.take_of_length_le (by rw [Exp.v_clen]; decide)
theorem Stm.v_tk {e:Stm}:List.take 5 e.v.cells=e.v.cells:=List.take_of_length_le (by rw [Stm.v_clen]; decide)
theorem Exp.v_ag {e:Exp}:V.agg e.v.cells=e.v:=by rw [Exp.v_eq]; rfl
theorem Stm.v_ag {e:Stm}:V.agg e.v.cells=e.v:=by rw [Stm.v_eq]; rfl
theorem Exp.v_out {e:Exp}:e.v.out=some e.v:=by rw [Exp.v_eq]; rfl
theorem Stm.v_out {e:Stm}:e.v.out=some e.v:=by rw [Stm.v_eq]; rfl
theorem InD.v_out {e:InD}:e.v.out=some e.v:=rfl
theorem ArD.v_out {e:ArD}:e.v.out=some e.v:=rfl
theorem Prg.v_out {e:Prg}:e.v.out=some e.v:=rfl
theorem Exp.v_cells {e:Exp}:e.v.cells=[I e.kind,I e.op,W e.num,.str e.name,.vec (e.kids.map Exp.v) .any]:=by rw [Exp.v_eq]; rfl
theorem Stm.v_cells {e:Stm}:e.v.cells=[I e.kind,.str e.name,.vec (e.e.map Exp.v) .any,.vec (e.thn.map Stm.v) .any,.vec (e.els.map Stm.v) .any]:=by rw [Stm.v_eq]; rfl
theorem InD.v_cells {e:InD}:e.v.cells=[.str e.name,I e.frm,I e.width,I e.size]:=rfl
theorem ArD.v_cells {e:ArD}:e.v.cells=[.str e.name,I e.size]:=rfl
theorem storeE {st:S} {k:Nat} {e:Exp}:storeV st (.lptr k 5 0) e.v 5=some { st with m:=upd st.m k (some e.v.cells) }:=by rw [Exp.v_eq]; rfl
theorem storeSt {st:S} {k:Nat} {e:Stm}:storeV st (.lptr k 5 0) e.v 5=some { st with m:=upd st.m k (some e.v.cells) }:=by rw [Stm.v_eq]; rfl
theorem Exp.v_outs {e:Exp}:outs e.v.cells=some e.v.cells:=by rw [Exp.v_eq]; rfl
theorem Stm.v_outs {e:Stm}:outs e.v.cells=some e.v.cells:=by rw [Stm.v_eq]; rfl
theorem get_map {α:Type} {f:α→V} {l:List α} {i:Nat} (hi:i < l.length):(l.map f)[i]?=some (f l[i]):=by rw [List.getElem?_map,List.getElem?_eq_getElem hi]; rfl
theorem beqS {x y:ByteArray}:(x == y)=decide (x=y):=by
 rcases x with ⟨a⟩
 rcases y with ⟨b⟩
 show (a == b)=_
 by_cases h:a=b
 ·subst h; simp
 ·rw [decide_eq_false (by simpa using h)]
  simpa using h
theorem wiM {i:Nat} (h:i < 9223372036854775807):IntKind.i64.wrap ((i:Int) + 1)=((i + 1:Nat):Int):=by rw [wrap_i64] <;> omega
theorem bneS {x y:ByteArray}:(x != y)=!decide (x=y):=by rw [bne,beqS]
def letterI (c:Int):Bool:=(decide (97 ≤ c) && decide (c ≤ 122)) || (decide (65 ≤ c) && decide (c ≤ 90))
def digitI (c:Int):Bool:=decide (48 ≤ c) && decide (c ≤ 57)
def partI (d:Bool) (c:UInt8):Bool:=digitI c.toNat || (!d && (letterI c.toNat || decide (((c.toNat:Nat):Int)=95)))
def runOf (d:Bool) (l:List UInt8):Nat:=(l.takeWhile (partI d)).length
def words26:List ByteArray:=[⟨#[105,110]⟩,⟨#[102,114,111,109]⟩,⟨#[97,114,114,97,121]⟩,⟨#[105,102]⟩,⟨#[101,108,115,101]⟩,⟨#[102,111,114]⟩,⟨#[116,111]⟩,⟨#[111,117,116]⟩]
def isName (s:ByteArray):Prop:=1 ≤ s.size∧s.size ≤ 20∧(∃ c r,s.data.toList=c :: r∧letterI c.toNat=true)∧runOf false s.data.toList=s.size∧s ∉ words26
theorem size_list {s:ByteArray}:s.data.toList.length=s.size:=Array.length_toList ..
namespace YtemlhjlceeiflaaDoor
section
variable {h:H} {K:Out→H→Prop}
theorem letter_spec {c:Nat} (hK:K (.ret (.bool (letterI c))) h):R 53 [.int .u8 c,] h K:=by
 refine run53 (Nat.le_of_ble_eq_true rfl) ?_
 by_cases a:(97:Int) ≤ c <;> by_cases b:(c:Int) ≤ 122 <;> by_cases d:(65:Int) ≤ c <;> by_cases e:(c:Int) ≤ 90
 all_goals
  simp -dsimp -implicitDefEqProofs only [↓STP,STQ,seval,ir53,a,b,d,e]
  simpa [letterI,a,b,d,e] using hK
theorem digit_spec {c:Nat} (hK:K (.ret (.bool (digitI c))) h):R 64 [.int .u8 c] h K:=by
 refine run64 (Nat.le_of_ble_eq_true rfl) ?_
 by_cases a:(48:Int) ≤ c <;> by_cases b:(c:Int) ≤ 57
 all_goals
  simp -dsimp -implicitDefEqProofs only [↓STP,STQ,seval,ir64,a,b]
  simpa [digitI,a,b] using hK
theorem takeWhile_get {p:UInt8→Bool} {l:List UInt8} {i:Nat} (hi:i < (l.takeWhile p).length):∃ c,l[i]?=some c∧p c=true:=by
 induction l generalizing i with
 | nil=>simp at hi
 | cons a l ih =>
  by_cases ha:p a=true
  ·rw [List.takeWhile_cons_of_pos ha] at hi
   cases i with
   | zero=>exact ⟨a,rfl,ha⟩
   | succ i=>exact ih (by simpa using hi)
  ·rw [List.takeWhile_cons_of_neg ha] at hi; simp at hi
theorem takeWhile_end {p:UInt8→Bool} {l:List UInt8}:(l.takeWhile p).length=l.length∨∃ c,l[(l.takeWhile p).length]?=some c∧p c=false∧(l.takeWhile p).length < l.length:=by
 induction l with
 | nil=>exact .inl rfl
 | cons a l ih =>
  by_cases ha:p a=true
  ·rw [List.takeWhile_cons_of_pos ha]
   rcases ih with h | ⟨c,h1,h2,h3⟩
   ·exact .inl (by simp [h])
   ·exact .inr ⟨c,by simpa using h1,h2,by simpa using h3⟩
  ·rw [List.takeWhile_cons_of_neg ha]
   exact .inr ⟨a,rfl,by simpa using ha,by simp⟩
theorem long_spec {s:ByteArray} {d:Bool} (hs:s.size ≤ maxLen) (hK:K (.ret (I (runOf d s.data.toList:Nat))) h):R 54 [.str s,.bool d] h K:=by
 refine run54 (Nat.le_of_ble_eq_true rfl) ?_
 have hmx:maxLen ≤ 9223372036854775807:=by decide
 have hle:runOf d s.data.toList ≤ s.size:=by rw [← size_list]; exact List.Sublist.length_le (List.takeWhile_sublist _)
 simp -dsimp -implicitDefEqProofs only [↓STP,STQ,seval,ir54]
 refine codeT_for (N:=runOf d s.data.toList) (fun i=>⟨upd (upd (upd ρ0 0 (.str s)) 1 (.bool d)) 5 (I i),m0,0,[],h⟩) (fun _=>True) (by simp -dsimp -implicitDefEqProofs only [↓STP,STQ,seval] <;> rfl) trivial (fun i hi _=>?_) (fun _=>?_) mono
 ·obtain ⟨c,hc,hp⟩:=takeWhile_get hi
  have hlt:i < s.size:=by omega
  have w1:=wiM (show i < 9223372036854775807 by omega)
  by_cases a:digitI c.toNat=true
  ·simp -dsimp -implicitDefEqProofs only [↓STP,STQ,seval,Int.ofNat_lt,hlt,hc]
   refine digit_spec ?_
   simp -dsimp -implicitDefEqProofs only [↓STP,STQ,seval,a,w1]
  ·have a':digitI c.toNat=false:=by simpa using a
   have hd:d=false:=by
    cases d with
    | false=>rfl
    | true=>rw [partI,a'] at hp; simp at hp
   subst hd
   simp -dsimp -implicitDefEqProofs only [↓STP,STQ,seval,Int.ofNat_lt,hlt,hc]
   refine digit_spec ?_
   simp -dsimp -implicitDefEqProofs only [↓STP,STQ,seval,a',hc]
   refine letter_spec ?_
   by_cases b:letterI c.toNat=true
   ·simp -dsimp -implicitDefEqProofs only [↓STP,STQ,seval,b,w1]
   ·have b':letterI c.toNat=false:=by simpa using b
    have e:((c.toNat:Nat):Int)=95:=by
     rw [partI,a',b'] at hp
     simpa using hp
    simp -dsimp -implicitDefEqProofs only [↓STP,STQ,seval,b',hc,eq_true e,w1]
 ·rcases takeWhile_end (p:=partI d) (l:=s.data.toList) with he | ⟨c,hc,hp,hlt⟩
  ·rw [size_list] at he
   simp -dsimp -implicitDefEqProofs only [↓STP,STQ,seval,Int.ofNat_lt,runOf,he,Nat.lt_irrefl]
   rw [runOf,he] at hK
   exact hK
  ·rw [size_list] at hlt
   have hlt':runOf d s.data.toList < s.size:=hlt
   have hc':s.data.toList[runOf d s.data.toList]?=some c:=hc
   have a':digitI c.toNat=false:=by
    cases hh:digitI c.toNat with
    | false=>rfl
    | true=>rw [partI,hh] at hp; simp at hp
   simp -dsimp -implicitDefEqProofs only [↓STP,STQ,seval,Int.ofNat_lt,hlt',hc']
   refine digit_spec ?_
   cases d with
   | true =>
    simp -dsimp -implicitDefEqProofs only [↓STP,STQ,seval,a']
    exact hK
   | false =>
    rw [partI,a'] at hp
    have b':letterI c.toNat=false:=by
     cases hh:letterI c.toNat with
     | false=>rfl
     | true=>rw [hh] at hp; simp at hp
    have e:¬ ((c.toNat:Nat):Int)=95:=by
     rw [b'] at hp
     simpa using hp
    simp -dsimp -implicitDefEqProofs only [↓STP,STQ,seval,a',hc']
    refine letter_spec ?_
    simp -dsimp -implicitDefEqProofs only [↓STP,STQ,seval,b',hc',eq_false e]
    exact hK
theorem word_spec {s:ByteArray} (hK:∀ b:Bool,(b=true ↔ s ∈ words26)→K (.ret (.bool b)) h):R 55 [.str s] h K:=by
 refine run55 (Nat.le_of_ble_eq_true rfl) ?_
 simp -dsimp -implicitDefEqProofs only [↓STP,STQ,seval,ir55]
 refine codeT_for (N:=8) (fun i=>⟨upd (upd (upd ρ0 0 (.str s)) 3 (.vec (words26.map V.str) (.own 0))) 4 (I i),m0,1,[],h⟩) (fun i=>s ∉ words26.take i) (by simp -dsimp -implicitDefEqProofs only [↓STP,STQ,seval] <;> rfl) (by simp) (fun i hi hp=>?_) (fun hp=>?_) mono
 ·have hget:(words26.map V.str)[i]?=some (.str (words26[i]'hi)):=get_map hi
  have hlen:((i:Nat):Int) < (words26.map V.str).length:=by rw [List.length_map]; show (i:Int) < (8:Nat); omega
  by_cases e:s=words26[i]'hi
  ·simp -dsimp -implicitDefEqProofs only [↓STP,STQ,seval,eq_true hlen,hget,binS,beqS,eq_true e]
   refine hK true ⟨fun _=>?_,fun _=>rfl⟩
   rw [e]; exact List.getElem_mem _
  ·simp -dsimp -implicitDefEqProofs only [↓STP,STQ,seval,eq_true hlen,hget,binS,beqS,eq_false e,wi (show i < 9000000000000000000 by omega)]
   rw [List.take_add_one,List.getElem?_eq_getElem (show i < words26.length from hi)]
   intro hm
   rcases List.mem_append.1 hm with hm | hm
   ·exact hp hm
   ·simp at hm; exact e hm
 ·have hlen:¬ ((8:Nat):Int) < (words26.map V.str).length:=by rw [List.length_map]; exact Int.lt_irrefl _
  simp -dsimp -implicitDefEqProofs only [↓STP,STQ,seval,List.length_map]
  refine hK false (iff_of_false (by simp) fun hm=>?_)
  exact absurd hm (by rw [List.take_of_length_le (Nat.le_refl 8)] at hp; exact hp)
theorem isName_spec {s:ByteArray} (hs:s.size ≤ maxLen) (hK:∀ b:Bool,(b=true ↔ isName s)→K (.ret (.bool b)) h):R 31 [.str s] h K:=by
 refine run31 (Nat.le_of_ble_eq_true rfl) ?_
 have no:¬ isName s→K (.ret (.bool false)) h:=fun hn=>hK false (iff_of_false (by simp) hn)
 by_cases a:(1:Int) ≤ (s.size:Int)
 rotate_left
 ·simp -dsimp -implicitDefEqProofs only [↓STP,STQ,seval,ir31,a]
  exact no fun h=>a (by have:=h.1; omega)
 by_cases b:(s.size:Int) ≤ 20
 rotate_left
 ·simp -dsimp -implicitDefEqProofs only [↓STP,STQ,seval,ir31,a,b]
  exact no fun h=>b (by have:=h.2.1; omega)
 obtain ⟨c,r,hcr⟩:∃ c r,s.data.toList=c :: r:=by
  cases hl:s.data.toList with
  | nil=>have:=size_list (s:=s); rw [hl] at this; simp at this; omega
  | cons c r=>exact ⟨c,r,rfl⟩
 have hget:s.data.toList[0]?=some c:=by rw [hcr]; rfl
 simp -dsimp -implicitDefEqProofs only [↓STP,STQ,seval,ir31,a,b,hget]
 refine letter_spec ?_
 by_cases d:letterI c.toNat=true
 rotate_left
 ·have d':letterI c.toNat=false:=by simpa using d
  simp -dsimp -implicitDefEqProofs only [↓STP,STQ,seval,d']
  refine no fun h=>?_
  obtain ⟨c',r',h1,h2⟩:=h.2.2.1
  rw [hcr] at h1
  cases h1
  exact d h2
 simp -dsimp -implicitDefEqProofs only [↓STP,STQ,seval,d]
 refine long_spec hs ?_
 by_cases e:((runOf false s.data.toList:Nat):Int)=(s.size:Int)
 rotate_left
 ·simp -dsimp -implicitDefEqProofs only [↓STP,STQ,seval,eq_false e]
  exact no fun h=>e (by rw [h.2.2.2.1])
 simp -dsimp -implicitDefEqProofs only [↓STP,STQ,seval,eq_true e]
 refine word_spec fun w hw=>?_
 cases w with
 | true =>
  simp -dsimp -implicitDefEqProofs only [↓STP,STQ,seval]
  exact no fun h=>h.2.2.2.2 (hw.1 rfl)
 | false =>
  simp -dsimp -implicitDefEqProofs only [↓STP,STQ,seval]
  exact hK true (iff_of_true rfl ⟨by omega,by omega,⟨c,r,hcr,d⟩,by omega,fun hm=>by have:=hw.2 hm; cases this⟩)
end
end YtemlhjlceeiflaaDoor
end Go.Ab
namespace Go.Ab
def kidsN (k:Int):Int:=if k=1∨k=2 then 0 else if k=3∨k=5 then 1 else if k=4 then 2 else if k=6 then 3 else -1
def noName:ByteArray:=⟨#[]⟩
mutual
def VE:Exp→Nat→Prop
 | .mk k o n s ks,lv=>lv ≤ 24∧kidsN k=ks.length∧((k=2∨k=3)→isName s)∧(¬ (k=2∨k=3)→s=noName)∧(k=4→1 ≤ o∧o ≤ 7)∧(k ≠ 4→o=0)∧n ≤ 1152921504606846975∧(k ≠ 1→n=0)∧VEs ks (lv + 1)
def VEs:List Exp→Nat→Prop
 | [],_=>True
 | e :: es,lv=>VE e lv∧VEs es lv
end
theorem VEs_all:∀ {l:List Exp} {lv:Nat},VEs l lv ↔ ∀ x ∈ l,VE x lv
 | [],lv=>by simp [VEs]
 | e :: es,lv=>by simp [VEs,VEs_all]
theorem VE_mk {k o:Int} {n:Nat} {s:ByteArray} {ks:List Exp} {lv:Nat}:VE (.mk k o n s ks) lv ↔ (lv ≤ 24∧kidsN k=ks.length∧((k=2∨k=3)→isName s)∧(¬ (k=2∨k=3)→s=noName)∧(k=4→1 ≤ o∧o ≤ 7)∧(k ≠ 4→o=0)∧n ≤ 1152921504606846975∧(k ≠ 1→n=0)∧∀ x ∈ ks,VE x (lv + 1)):=by
 rw [VE,VEs_all]
mutual
def VS:Stm→Nat→Prop
 | .mk k s e a b,lv=>lv ≤ 24∧1 ≤ k∧k ≤ 5∧e.length=(if k=2∨k=4 then 2 else 1)∧((k ≠ 3∧k ≠ 5)→isName s)∧(¬ (k ≠ 3∧k ≠ 5)→s=noName)∧(k ≠ 3→b=[])∧(k ≠ 3→k ≠ 4→a=[])∧VEs e (lv + 1)∧VSs a (lv + 1)∧VSs b (lv + 1)
def VSs:List Stm→Nat→Prop
 | [],_=>True
 | e :: es,lv=>VS e lv∧VSs es lv
end
theorem VSs_all:∀ {l:List Stm} {lv:Nat},VSs l lv ↔ ∀ x ∈ l,VS x lv
 | [],lv=>by simp [VSs]
 | e :: es,lv=>by simp [VSs,VSs_all]
theorem VS_mk {k:Int} {s:ByteArray} {e:List Exp} {a b:List Stm} {lv:Nat}:VS (.mk k s e a b) lv ↔ (lv ≤ 24∧1 ≤ k∧k ≤ 5∧e.length=(if k=2∨k=4 then 2 else 1)∧((k ≠ 3∧k ≠ 5)→isName s)∧(¬ (k ≠ 3∧k ≠ 5)→s=noName)∧(k ≠ 3→b=[])∧(k ≠ 3→k ≠ 4→a=[])∧(∀ x ∈ e,VE x (lv + 1))∧VSs a (lv + 1)∧VSs b (lv + 1)):=by
 rw [VS,VEs_all]
theorem EOk_mk {k o:Int} {n:Nat} {s:ByteArray} {ks:List Exp} (h:EOk (.mk k o n s ks)):I64 k∧I64 o∧n < 18446744073709551616∧s.size ≤ maxLen∧ks.length ≤ maxLen∧∀ x ∈ ks,EOk x:=by
 cases h with
 | mk a b c d e f=>exact ⟨a,b,c,d,e,f⟩
theorem SOk_mk {k:Int} {s:ByteArray} {e:List Exp} {a b:List Stm} (h:SOk (.mk k s e a b)):I64 k∧s.size ≤ maxLen∧e.length ≤ maxLen∧a.length ≤ maxLen∧b.length ≤ maxLen∧(∀ x ∈ e,EOk x)∧(∀ x ∈ a,SOk x)∧∀ x ∈ b,SOk x:=by
 cases h with
 | mk a1 a2 a3 a4 a5 a6 a7 a8=>exact ⟨a1,a2,a3,a4,a5,a6,a7,a8⟩
theorem maxLen_eq:maxLen=9223372036854775807:=by decide
namespace YtemlhjlceeiflaaDoor
section
variable {h:H} {K:Out→H→Prop}
theorem kids27 {e:Exp} (hK:K (.ret (I (kidsN e.kind))) h):R 95 [e.v] h K:=by
 obtain ⟨k,o,n,s,ks⟩:=e
 refine run95 (Nat.le_of_ble_eq_true rfl) ?_
 by_cases c1:k=1
 ·simp -dsimp -implicitDefEqProofs only [↓STP,STQ,seval,Exp.v_mk,ir95,eq_true c1]
  simpa [Exp.kind,kidsN,c1] using hK
 by_cases c2:k=2
 ·simp -dsimp -implicitDefEqProofs only [↓STP,STQ,seval,Exp.v_mk,ir95,eq_false c1,eq_true c2]
  simpa [Exp.kind,kidsN,c2] using hK
 by_cases c3:k=3
 ·simp -dsimp -implicitDefEqProofs only [↓STP,STQ,seval,Exp.v_mk,ir95,eq_false c1,eq_false c2,eq_true c3]
  simpa [Exp.kind,kidsN,c3] using hK
 by_cases c5:k=5
 ·simp -dsimp -implicitDefEqProofs only [↓STP,STQ,seval,Exp.v_mk,ir95,eq_false c1,eq_false c2,eq_false c3,eq_true c5]
  simpa [Exp.kind,kidsN,c5] using hK
 by_cases c4:k=4
 ·simp -dsimp -implicitDefEqProofs only [↓STP,STQ,seval,Exp.v_mk,ir95,eq_false c1,eq_false c2,eq_false c3,eq_false c5,eq_true c4]
  simpa [Exp.kind,kidsN,c4] using hK
 by_cases c6:k=6
 ·simp -dsimp -implicitDefEqProofs only [↓STP,STQ,seval,Exp.v_mk,ir95,eq_false c1,eq_false c2,eq_false c3,eq_false c5,eq_false c4,eq_true c6]
  simpa [Exp.kind,kidsN,c6] using hK
 simp -dsimp -implicitDefEqProofs only [↓STP,STQ,seval,Exp.v_mk,ir95,eq_false c1,eq_false c2,eq_false c3,eq_false c5,eq_false c4,eq_false c6]
 simpa [Exp.kind,kidsN,c1,c2,c3,c4,c5,c6] using hK
theorem expr27 (e:Exp):∀ (lv:Nat) (h:H) (K:Out→H→Prop),EOk e→lv ≤ 100→(∀ b:Bool,(b=true ↔ VE e lv)→K (.ret (.bool b)) h)→R 83 [e.v,I lv] h K:=by
 induction e using Exp.ind with
 | h k o n s ks ih =>
  intro lv h K ok hlv hK
  obtain ⟨hk,ho,hn,hs,hl,hks⟩:=EOk_mk ok
  have no:¬ VE (.mk k o n s ks) lv→K (.ret (.bool false)) h:=fun hn=>hK false (iff_of_false (by simp) hn)
  refine run83 (Nat.le_of_ble_eq_true rfl) ?_
  by_cases a:(24:Int) < (lv:Int)
  ·simp -dsimp -implicitDefEqProofs only [↓STP,STQ,seval,Exp.v_mk,ir83,a]
   exact no fun h=>by have:=(VE_mk.1 h).1; omega
  have kd:=@kids27 h
  by_cases c:kidsN k=(ks.length:Int)
  rotate_left
  ·simp -dsimp -implicitDefEqProofs only [↓STP,STQ,seval,Exp.v_mk,ir83,a]
   rw [← Exp.v_mk]
   refine kids27 ?_
   simp -dsimp -implicitDefEqProofs only [↓STP,STQ,seval,Exp.v_mk,Exp.kind,List.length_map,eq_false c]
   exact no fun h=>c (VE_mk.1 h).2.1
  have kk:k=1∨k=2∨k=3∨k=4∨k=5∨k=6:=by
   unfold kidsN at c
   split at c
   ·omega
   ·split at c
    ·omega
    ·split at c
     ·omega
     ·split at c <;> omega
  simp -dsimp -implicitDefEqProofs only [↓STP,STQ,seval,Exp.v_mk,ir83,a]
  rw [← Exp.v_mk]
  refine kids27 ?_
  have wl:IntKind.i64.wrap ((lv:Int) + 1)=((lv + 1:Nat):Int):=wi (by omega)
  have names:(k=2∨k=3)→isName s∨K (.ret (.bool false)) h:=fun hk=>by
   by_cases hh:isName s
   ·exact .inl hh
   ·exact .inr (no fun h=>hh ((VE_mk.1 h).2.2.1 hk))
  have numb:k ≠ 1→n=0∨K (.ret (.bool false)) h:=fun hk=>by
   by_cases hh:n=0
   ·exact .inl hh
   ·exact .inr (no fun h=>hh ((VE_mk.1 h).2.2.2.2.2.2.2.1 hk))
  rcases kk with rfl | rfl | rfl | rfl | rfl | rfl
  ·by_cases hnm:s=noName
   rotate_left
   ·simp -dsimp -implicitDefEqProofs only [↓STP,STQ,seval,Exp.v_mk,Exp.kind,List.length_map,eq_true c,binS,bneS,eq_false (show ¬ s=⟨#[]⟩ from hnm)]
    exact no fun h=>hnm ((VE_mk.1 h).2.2.2.1 (by decide))
   by_cases ho0:o=0
   rotate_left
   ·simp -dsimp -implicitDefEqProofs only [↓STP,STQ,seval,Exp.v_mk,Exp.kind,List.length_map,eq_true c,binS,bneS,eq_true (show s=⟨#[]⟩ from hnm),eq_false ho0]
    exact no fun h=>ho0 ((VE_mk.1 h).2.2.2.2.2.1 (by decide))
   by_cases cn:(1152921504606846975:Int) < (n:Int)
   ·simp -dsimp -implicitDefEqProofs only [↓STP,STQ,seval,Exp.v_mk,Exp.kind,List.length_map,eq_true c,binS,bneS,eq_true (show s=⟨#[]⟩ from hnm),eq_true ho0,eq_true cn]
    exact no fun h=>by have:=(VE_mk.1 h).2.2.2.2.2.2.1; omega
   simp -dsimp -implicitDefEqProofs only [↓STP,STQ,seval,Exp.v_mk,Exp.kind,List.length_map,eq_true c,binS,bneS,eq_true (show s=⟨#[]⟩ from hnm),eq_true ho0,eq_false cn]
   refine codeT_for (N:=ks.length) (fun i=>⟨upd (upd (upd ρ0 1 (I lv)) 2 (.lptr 0 5 0)) 6 (I i),upd m0 0 (some [I 1,I o,W n,.str s,.vec (ks.map Exp.v) .any]),1,[],h⟩) (fun i=>∀ x ∈ ks.take i,VE x (lv + 1)) (by simp -dsimp -implicitDefEqProofs only [↓STP,STQ,seval] <;> rfl) (by simp) (fun i hi hp=>?_) (fun hp=>?_) mono
   ·simp -dsimp -implicitDefEqProofs only [↓STP,STQ,seval,List.length_map,Int.ofNat_lt,hi,get_map hi,Exp.v_clen,Exp.v_tk,Exp.v_ag,Exp.v_out,wl]
    refine ih _ (List.getElem_mem hi) (lv + 1) h _ (hks _ (List.getElem_mem hi)) (by omega) fun b hb=>?_
    cases b with
    | false =>
     simp -dsimp -implicitDefEqProofs only [↓STP,STQ,seval]
     exact no fun h=>by have:=hb.2 ((VE_mk.1 h).2.2.2.2.2.2.2.2 _ (List.getElem_mem hi)); cases this
    | true =>
     simp -dsimp -implicitDefEqProofs only [↓STP,STQ,seval,wiM (show i < 9223372036854775807 by have:=maxLen_eq; omega)]
     intro x hx
     rw [List.take_add_one,List.getElem?_eq_getElem hi] at hx
     rcases List.mem_append.1 hx with hx | hx
     ·exact hp x hx
     ·simp at hx; subst hx; exact hb.1 rfl
   ·simp -dsimp -implicitDefEqProofs only [↓STP,STQ,seval,List.length_map,Int.lt_irrefl]
    rw [List.take_length] at hp
    exact hK true (iff_of_true rfl (VE_mk.2 ⟨by omega,c,fun h=>by omega,fun _=>hnm,fun h=>by omega,fun _=>ho0,by omega,fun h=>absurd rfl h,hp⟩))
  ·simp -dsimp -implicitDefEqProofs only [↓STP,STQ,seval,Exp.v_mk,Exp.kind,List.length_map,eq_true c]
   refine isName_spec hs fun b hb=>?_
   cases b with
   | false =>
    simp -dsimp -implicitDefEqProofs only [↓STP,STQ,seval]
    exact no fun h=>by have:=hb.2 ((VE_mk.1 h).2.2.1 (by decide)); cases this
   | true =>
    have hnm:=hb.1 rfl
    by_cases ho0:o=0
    rotate_left
    ·simp -dsimp -implicitDefEqProofs only [↓STP,STQ,seval,eq_false ho0]
     exact no fun h=>ho0 ((VE_mk.1 h).2.2.2.2.2.1 (by decide))
    by_cases cn:(1152921504606846975:Int) < (n:Int)
    ·simp -dsimp -implicitDefEqProofs only [↓STP,STQ,seval,eq_true ho0,eq_true cn]
     exact no fun h=>by have:=(VE_mk.1 h).2.2.2.2.2.2.1; omega
    by_cases cz:(n:Int)=0
    rotate_left
    ·simp -dsimp -implicitDefEqProofs only [↓STP,STQ,seval,eq_true ho0,eq_false cn,eq_false cz]
     exact no fun h=>by have:=(VE_mk.1 h).2.2.2.2.2.2.2.1 (by decide); omega
    simp -dsimp -implicitDefEqProofs only [↓STP,STQ,seval,eq_true ho0,eq_false cn,eq_true cz]
    refine codeT_for (N:=ks.length) (fun i=>⟨upd (upd (upd ρ0 1 (I lv)) 2 (.lptr 0 5 0)) 6 (I i),upd m0 0 (some [I 2,I o,W n,.str s,.vec (ks.map Exp.v) .any]),1,[],h⟩) (fun i=>∀ x ∈ ks.take i,VE x (lv + 1)) (by simp -dsimp -implicitDefEqProofs only [↓STP,STQ,seval] <;> rfl) (by simp) (fun i hi hp=>?_) (fun hp=>?_) mono
    ·simp -dsimp -implicitDefEqProofs only [↓STP,STQ,seval,List.length_map,Int.ofNat_lt,hi,get_map hi,Exp.v_clen,Exp.v_tk,Exp.v_ag,Exp.v_out,wl]
     refine ih _ (List.getElem_mem hi) (lv + 1) h _ (hks _ (List.getElem_mem hi)) (by omega) fun b hb=>?_
     cases b with
     | false =>
      simp -dsimp -implicitDefEqProofs only [↓STP,STQ,seval]
      exact no fun h=>by have:=hb.2 ((VE_mk.1 h).2.2.2.2.2.2.2.2 _ (List.getElem_mem hi)); cases this
     | true =>
      simp -dsimp -implicitDefEqProofs only [↓STP,STQ,seval,wiM (show i < 9223372036854775807 by have:=maxLen_eq; omega)]
      intro x hx
      rw [List.take_add_one,List.getElem?_eq_getElem hi] at hx
      rcases List.mem_append.1 hx with hx | hx
      ·exact hp x hx
      ·simp at hx; subst hx; exact hb.1 rfl
    ·simp -dsimp -implicitDefEqProofs only [↓STP,STQ,seval,List.length_map,Int.lt_irrefl]
     rw [List.take_length] at hp
     exact hK true (iff_of_true rfl (VE_mk.2 ⟨by omega,c,fun _=>hnm,fun h=>absurd h (by simp),fun h=>by omega,fun _=>ho0,by omega,fun _=>by omega,hp⟩))
  ·simp -dsimp -implicitDefEqProofs only [↓STP,STQ,seval,Exp.v_mk,Exp.kind,List.length_map,eq_true c]
   refine isName_spec hs fun b hb=>?_
   cases b with
   | false =>
    simp -dsimp -implicitDefEqProofs only [↓STP,STQ,seval]
    exact no fun h=>by have:=hb.2 ((VE_mk.1 h).2.2.1 (by decide)); cases this
   | true =>
    have hnm:=hb.1 rfl
    by_cases ho0:o=0
    rotate_left
    ·simp -dsimp -implicitDefEqProofs only [↓STP,STQ,seval,eq_false ho0]
     exact no fun h=>ho0 ((VE_mk.1 h).2.2.2.2.2.1 (by decide))
    by_cases cn:(1152921504606846975:Int) < (n:Int)
    ·simp -dsimp -implicitDefEqProofs only [↓STP,STQ,seval,eq_true ho0,eq_true cn]
     exact no fun h=>by have:=(VE_mk.1 h).2.2.2.2.2.2.1; omega
    by_cases cz:(n:Int)=0
    rotate_left
    ·simp -dsimp -implicitDefEqProofs only [↓STP,STQ,seval,eq_true ho0,eq_false cn,eq_false cz]
     exact no fun h=>by have:=(VE_mk.1 h).2.2.2.2.2.2.2.1 (by decide); omega
    simp -dsimp -implicitDefEqProofs only [↓STP,STQ,seval,eq_true ho0,eq_false cn,eq_true cz]
    refine codeT_for (N:=ks.length) (fun i=>⟨upd (upd (upd ρ0 1 (I lv)) 2 (.lptr 0 5 0)) 6 (I i),upd m0 0 (some [I 3,I o,W n,.str s,.vec (ks.map Exp.v) .any]),1,[],h⟩) (fun i=>∀ x ∈ ks.take i,VE x (lv + 1)) (by simp -dsimp -implicitDefEqProofs only [↓STP,STQ,seval] <;> rfl) (by simp) (fun i hi hp=>?_) (fun hp=>?_) mono
    ·simp -dsimp -implicitDefEqProofs only [↓STP,STQ,seval,List.length_map,Int.ofNat_lt,hi,get_map hi,Exp.v_clen,Exp.v_tk,Exp.v_ag,Exp.v_out,wl]
     refine ih _ (List.getElem_mem hi) (lv + 1) h _ (hks _ (List.getElem_mem hi)) (by omega) fun b hb=>?_
     cases b with
     | false =>
      simp -dsimp -implicitDefEqProofs only [↓STP,STQ,seval]
      exact no fun h=>by have:=hb.2 ((VE_mk.1 h).2.2.2.2.2.2.2.2 _ (List.getElem_mem hi)); cases this
     | true =>
      simp -dsimp -implicitDefEqProofs only [↓STP,STQ,seval,wiM (show i < 9223372036854775807 by have:=maxLen_eq; omega)]
      intro x hx
      rw [List.take_add_one,List.getElem?_eq_getElem hi] at hx
      rcases List.mem_append.1 hx with hx | hx
      ·exact hp x hx
      ·simp at hx; subst hx; exact hb.1 rfl
    ·simp -dsimp -implicitDefEqProofs only [↓STP,STQ,seval,List.length_map,Int.lt_irrefl]
     rw [List.take_length] at hp
     exact hK true (iff_of_true rfl (VE_mk.2 ⟨by omega,c,fun _=>hnm,fun h=>absurd h (by simp),fun h=>by omega,fun _=>ho0,by omega,fun _=>by omega,hp⟩))
  ·by_cases hnm:s=noName
   rotate_left
   ·simp -dsimp -implicitDefEqProofs only [↓STP,STQ,seval,Exp.v_mk,Exp.kind,List.length_map,eq_true c,binS,bneS,eq_false (show ¬ s=⟨#[]⟩ from hnm)]
    exact no fun h=>hnm ((VE_mk.1 h).2.2.2.1 (by decide))
   by_cases co:o < 1
   ·simp -dsimp -implicitDefEqProofs only [↓STP,STQ,seval,Exp.v_mk,Exp.kind,List.length_map,eq_true c,binS,bneS,eq_true (show s=⟨#[]⟩ from hnm),eq_true co]
    exact no fun h=>by have:=(VE_mk.1 h).2.2.2.2.1 rfl; omega
   by_cases cp:7 < o
   ·simp -dsimp -implicitDefEqProofs only [↓STP,STQ,seval,Exp.v_mk,Exp.kind,List.length_map,eq_true c,binS,bneS,eq_true (show s=⟨#[]⟩ from hnm),eq_false co,eq_true cp]
    exact no fun h=>by have:=(VE_mk.1 h).2.2.2.2.1 rfl; omega
   by_cases cn:(1152921504606846975:Int) < (n:Int)
   ·simp -dsimp -implicitDefEqProofs only [↓STP,STQ,seval,Exp.v_mk,Exp.kind,List.length_map,eq_true c,binS,bneS,eq_true (show s=⟨#[]⟩ from hnm),eq_false co,eq_false cp,eq_true cn]
    exact no fun h=>by have:=(VE_mk.1 h).2.2.2.2.2.2.1; omega
   by_cases cz:(n:Int)=0
   rotate_left
   ·simp -dsimp -implicitDefEqProofs only [↓STP,STQ,seval,Exp.v_mk,Exp.kind,List.length_map,eq_true c,binS,bneS,eq_true (show s=⟨#[]⟩ from hnm),eq_false co,eq_false cp,eq_false cn,eq_false cz]
    exact no fun h=>by have:=(VE_mk.1 h).2.2.2.2.2.2.2.1 (by decide); omega
   simp -dsimp -implicitDefEqProofs only [↓STP,STQ,seval,Exp.v_mk,Exp.kind,List.length_map,eq_true c,binS,bneS,eq_true (show s=⟨#[]⟩ from hnm),eq_false co,eq_false cp,eq_false cn,eq_true cz]
   refine codeT_for (N:=ks.length) (fun i=>⟨upd (upd (upd ρ0 1 (I lv)) 2 (.lptr 0 5 0)) 6 (I i),upd m0 0 (some [I 4,I o,W n,.str s,.vec (ks.map Exp.v) .any]),1,[],h⟩) (fun i=>∀ x ∈ ks.take i,VE x (lv + 1)) (by simp -dsimp -implicitDefEqProofs only [↓STP,STQ,seval] <;> rfl) (by simp) (fun i hi hp=>?_) (fun hp=>?_) mono
   ·simp -dsimp -implicitDefEqProofs only [↓STP,STQ,seval,List.length_map,Int.ofNat_lt,hi,get_map hi,Exp.v_clen,Exp.v_tk,Exp.v_ag,Exp.v_out,wl]
    refine ih _ (List.getElem_mem hi) (lv + 1) h _ (hks _ (List.getElem_mem hi)) (by omega) fun b hb=>?_
    cases b with
    | false =>
     simp -dsimp -implicitDefEqProofs only [↓STP,STQ,seval]
     exact no fun h=>by have:=hb.2 ((VE_mk.1 h).2.2.2.2.2.2.2.2 _ (List.getElem_mem hi)); cases this
    | true =>
     simp -dsimp -implicitDefEqProofs only [↓STP,STQ,seval,wiM (show i < 9223372036854775807 by have:=maxLen_eq; omega)]
     intro x hx
     rw [List.take_add_one,List.getElem?_eq_getElem hi] at hx
     rcases List.mem_append.1 hx with hx | hx
     ·exact hp x hx
     ·simp at hx; subst hx; exact hb.1 rfl
   ·simp -dsimp -implicitDefEqProofs only [↓STP,STQ,seval,List.length_map,Int.lt_irrefl]
    rw [List.take_length] at hp
    exact hK true (iff_of_true rfl (VE_mk.2 ⟨by omega,c,fun h=>by omega,fun _=>hnm,fun _=>⟨by omega,by omega⟩,fun h=>absurd rfl h,by omega,fun _=>by omega,hp⟩))
  ·by_cases hnm:s=noName
   rotate_left
   ·simp -dsimp -implicitDefEqProofs only [↓STP,STQ,seval,Exp.v_mk,Exp.kind,List.length_map,eq_true c,binS,bneS,eq_false (show ¬ s=⟨#[]⟩ from hnm)]
    exact no fun h=>hnm ((VE_mk.1 h).2.2.2.1 (by decide))
   by_cases ho0:o=0
   rotate_left
   ·simp -dsimp -implicitDefEqProofs only [↓STP,STQ,seval,Exp.v_mk,Exp.kind,List.length_map,eq_true c,binS,bneS,eq_true (show s=⟨#[]⟩ from hnm),eq_false ho0]
    exact no fun h=>ho0 ((VE_mk.1 h).2.2.2.2.2.1 (by decide))
   by_cases cn:(1152921504606846975:Int) < (n:Int)
   ·simp -dsimp -implicitDefEqProofs only [↓STP,STQ,seval,Exp.v_mk,Exp.kind,List.length_map,eq_true c,binS,bneS,eq_true (show s=⟨#[]⟩ from hnm),eq_true ho0,eq_true cn]
    exact no fun h=>by have:=(VE_mk.1 h).2.2.2.2.2.2.1; omega
   by_cases cz:(n:Int)=0
   rotate_left
   ·simp -dsimp -implicitDefEqProofs only [↓STP,STQ,seval,Exp.v_mk,Exp.kind,List.length_map,eq_true c,binS,bneS,eq_true (show s=⟨#[]⟩ from hnm),eq_true ho0,eq_false cn,eq_false cz]
    exact no fun h=>by have:=(VE_mk.1 h).2.2.2.2.2.2.2.1 (by decide); omega
   simp -dsimp -implicitDefEqProofs only [↓STP,STQ,seval,Exp.v_mk,Exp.kind,List.length_map,eq_true c,binS,bneS,eq_true (show s=⟨#[]⟩ from hnm),eq_true ho0,eq_false cn,eq_true cz]
   refine codeT_for (N:=ks.length) (fun i=>⟨upd (upd (upd ρ0 1 (I lv)) 2 (.lptr 0 5 0)) 6 (I i),upd m0 0 (some [I 5,I o,W n,.str s,.vec (ks.map Exp.v) .any]),1,[],h⟩) (fun i=>∀ x ∈ ks.take i,VE x (lv + 1)) (by simp -dsimp -implicitDefEqProofs only [↓STP,STQ,seval] <;> rfl) (by simp) (fun i hi hp=>?_) (fun hp=>?_) mono
   ·simp -dsimp -implicitDefEqProofs only [↓STP,STQ,seval,List.length_map,Int.ofNat_lt,hi,get_map hi,Exp.v_clen,Exp.v_tk,Exp.v_ag,Exp.v_out,wl]
    refine ih _ (List.getElem_mem hi) (lv + 1) h _ (hks _ (List.getElem_mem hi)) (by omega) fun b hb=>?_
    cases b with
    | false =>
     simp -dsimp -implicitDefEqProofs only [↓STP,STQ,seval]
     exact no fun h=>by have:=hb.2 ((VE_mk.1 h).2.2.2.2.2.2.2.2 _ (List.getElem_mem hi)); cases this
    | true =>
     simp -dsimp -implicitDefEqProofs only [↓STP,STQ,seval,wiM (show i < 9223372036854775807 by have:=maxLen_eq; omega)]
     intro x hx
     rw [List.take_add_one,List.getElem?_eq_getElem hi] at hx
     rcases List.mem_append.1 hx with hx | hx
     ·exact hp x hx
     ·simp at hx; subst hx; exact hb.1 rfl
   ·simp -dsimp -implicitDefEqProofs only [↓STP,STQ,seval,List.length_map,Int.lt_irrefl]
    rw [List.take_length] at hp
    exact hK true (iff_of_true rfl (VE_mk.2 ⟨by omega,c,fun h=>by omega,fun _=>hnm,fun h=>by omega,fun _=>ho0,by omega,fun _=>by omega,hp⟩))
  ·by_cases hnm:s=noName
   rotate_left
   ·simp -dsimp -implicitDefEqProofs only [↓STP,STQ,seval,Exp.v_mk,Exp.kind,List.length_map,eq_true c,binS,bneS,eq_false (show ¬ s=⟨#[]⟩ from hnm)]
    exact no fun h=>hnm ((VE_mk.1 h).2.2.2.1 (by decide))
   by_cases ho0:o=0
   rotate_left
   ·simp -dsimp -implicitDefEqProofs only [↓STP,STQ,seval,Exp.v_mk,Exp.kind,List.length_map,eq_true c,binS,bneS,eq_true (show s=⟨#[]⟩ from hnm),eq_false ho0]
    exact no fun h=>ho0 ((VE_mk.1 h).2.2.2.2.2.1 (by decide))
   by_cases cn:(1152921504606846975:Int) < (n:Int)
   ·simp -dsimp -implicitDefEqProofs only [↓STP,STQ,seval,Exp.v_mk,Exp.kind,List.length_map,eq_true c,binS,bneS,eq_true (show s=⟨#[]⟩ from hnm),eq_true ho0,eq_true cn]
    exact no fun h=>by have:=(VE_mk.1 h).2.2.2.2.2.2.1; omega
   by_cases cz:(n:Int)=0
   rotate_left
   ·simp -dsimp -implicitDefEqProofs only [↓STP,STQ,seval,Exp.v_mk,Exp.kind,List.length_map,eq_true c,binS,bneS,eq_true (show s=⟨#[]⟩ from hnm),eq_true ho0,eq_false cn,eq_false cz]
    exact no fun h=>by have:=(VE_mk.1 h).2.2.2.2.2.2.2.1 (by decide); omega
   simp -dsimp -implicitDefEqProofs only [↓STP,STQ,seval,Exp.v_mk,Exp.kind,List.length_map,eq_true c,binS,bneS,eq_true (show s=⟨#[]⟩ from hnm),eq_true ho0,eq_false cn,eq_true cz]
   refine codeT_for (N:=ks.length) (fun i=>⟨upd (upd (upd ρ0 1 (I lv)) 2 (.lptr 0 5 0)) 6 (I i),upd m0 0 (some [I 6,I o,W n,.str s,.vec (ks.map Exp.v) .any]),1,[],h⟩) (fun i=>∀ x ∈ ks.take i,VE x (lv + 1)) (by simp -dsimp -implicitDefEqProofs only [↓STP,STQ,seval] <;> rfl) (by simp) (fun i hi hp=>?_) (fun hp=>?_) mono
   ·simp -dsimp -implicitDefEqProofs only [↓STP,STQ,seval,List.length_map,Int.ofNat_lt,hi,get_map hi,Exp.v_clen,Exp.v_tk,Exp.v_ag,Exp.v_out,wl]
    refine ih _ (List.getElem_mem hi) (lv + 1) h _ (hks _ (List.getElem_mem hi)) (by omega) fun b hb=>?_
    cases b with
    | false =>
     simp -dsimp -implicitDefEqProofs only [↓STP,STQ,seval]
     exact no fun h=>by have:=hb.2 ((VE_mk.1 h).2.2.2.2.2.2.2.2 _ (List.getElem_mem hi)); cases this
    | true =>
     simp -dsimp -implicitDefEqProofs only [↓STP,STQ,seval,wiM (show i < 9223372036854775807 by have:=maxLen_eq; omega)]
     intro x hx
     rw [List.take_add_one,List.getElem?_eq_getElem hi] at hx
     rcases List.mem_append.1 hx with hx | hx
     ·exact hp x hx
     ·simp at hx; subst hx; exact hb.1 rfl
   ·simp -dsimp -implicitDefEqProofs only [↓STP,STQ,seval,List.length_map,Int.lt_irrefl]
    rw [List.take_length] at hp
    exact hK true (iff_of_true rfl (VE_mk.2 ⟨by omega,c,fun h=>by omega,fun _=>hnm,fun h=>by omega,fun _=>ho0,by omega,fun _=>by omega,hp⟩))
theorem stmts27_of (l:List Stm) (ih:∀ x ∈ l,∀ (lv:Nat) (h:H) (K:Out→H→Prop),SOk x→lv ≤ 100→(∀ b:Bool,(b=true ↔ VS x lv)→K (.ret (.bool b)) h)→R 56 [x.v,I lv] h K) (hl:l.length ≤ maxLen) (ok:∀ x ∈ l,SOk x) {lv:Nat} (hlv:lv ≤ 100)
  (hK:∀ b:Bool,(b=true ↔ VSs l lv)→K (.ret (.bool b)) h):R 32 [.vec (l.map Stm.v) .any,I lv] h K:=by
 have hm:=maxLen_eq
 refine run32 (Nat.le_of_ble_eq_true rfl) ?_
 simp -dsimp -implicitDefEqProofs only [↓STP,STQ,seval,ir32]
 refine codeT_for (N:=l.length) (fun i=>⟨upd (upd (upd ρ0 0 (.vec (l.map Stm.v) .any)) 1 (I lv)) 5 (I i),m0,0,[],h⟩) (fun i=>∀ x ∈ l.take i,VS x lv) (by simp -dsimp -implicitDefEqProofs only [↓STP,STQ,seval] <;> rfl) (by simp) (fun i hi hp=>?_) (fun hp=>?_) mono
 ·simp -dsimp -implicitDefEqProofs only [↓STP,STQ,seval,List.length_map,Int.ofNat_lt,hi,get_map hi,Stm.v_clen,Stm.v_tk,Stm.v_ag,Stm.v_out]
  refine ih _ (List.getElem_mem hi) lv h _ (ok _ (List.getElem_mem hi)) hlv fun b hb=>?_
  cases b with
  | false =>
   simp -dsimp -implicitDefEqProofs only [↓STP,STQ,seval]
   exact hK false (iff_of_false (by simp) fun h=>by have:=hb.2 (VSs_all.1 h _ (List.getElem_mem hi)); cases this)
  | true =>
   simp -dsimp -implicitDefEqProofs only [↓STP,STQ,seval,wiM (show i < 9223372036854775807 by omega)]
   intro x hx
   rw [List.take_add_one,List.getElem?_eq_getElem hi] at hx
   rcases List.mem_append.1 hx with hx | hx
   ·exact hp x hx
   ·simp at hx; subst hx; exact hb.1 rfl
 ·simp -dsimp -implicitDefEqProofs only [↓STP,STQ,seval,List.length_map,Int.lt_irrefl]
  rw [List.take_length] at hp
  exact hK true (iff_of_true rfl (VSs_all.2 hp))
theorem stmt27 (e:Stm):∀ (lv:Nat) (h:H) (K:Out→H→Prop),SOk e→lv ≤ 100→(∀ b:Bool,(b=true ↔ VS e lv)→K (.ret (.bool b)) h)→R 56 [e.v,I lv] h K:=by
 induction e using Stm.ind with
 | h k s e a b iha ihb =>
  intro lv h K ok hlv hK
  obtain ⟨hk,hs,hle,hla,hlb,he,ha,hb⟩:=SOk_mk ok
  have hm:=maxLen_eq
  have no:¬ VS (.mk k s e a b) lv→K (.ret (.bool false)) h:=fun hn=>hK false (iff_of_false (by simp) hn)
  refine run56 (Nat.le_of_ble_eq_true rfl) ?_
  by_cases c0:(24:Int) < (lv:Int)
  ·simp -dsimp -implicitDefEqProofs only [↓STP,STQ,seval,Stm.v_mk,ir56,c0]
   exact no fun h=>by have:=(VS_mk.1 h).1; omega
  by_cases c1:k < 1
  ·simp -dsimp -implicitDefEqProofs only [↓STP,STQ,seval,Stm.v_mk,ir56,c0,c1]
   exact no fun h=>by have:=(VS_mk.1 h).2.1; omega
  by_cases c2:5 < k
  ·simp -dsimp -implicitDefEqProofs only [↓STP,STQ,seval,Stm.v_mk,ir56,c0,c1,c2]
   exact no fun h=>by have:=(VS_mk.1 h).2.2.1; omega
  have wl:IntKind.i64.wrap ((lv:Int) + 1)=((lv + 1:Nat):Int):=wi (by omega)
  have hlv':lv + 1 ≤ 100:=by omega
  have kk:k=1∨k=2∨k=3∨k=4∨k=5:=by omega
  rcases kk with rfl | rfl | rfl | rfl | rfl
  ·by_cases ce:(e.length:Int)=1
   rotate_left
   ·simp -dsimp -implicitDefEqProofs only [↓STP,STQ,seval,Stm.v_mk,ir56,c0,List.length_map,eq_false ce]
    exact no fun h=>ce (by have:=(VS_mk.1 h).2.2.2.1; simp at this; omega)
   have ce':e.length=1:=by omega
   simp -dsimp -implicitDefEqProofs only [↓STP,STQ,seval,Stm.v_mk,ir56,c0,List.length_map,ce']
   refine isName_spec hs fun b' hb'=>?_
   cases b' with
   | false =>
    simp -dsimp -implicitDefEqProofs only [↓STP,STQ,seval]
    exact no fun h=>by have:=hb'.2 ((VS_mk.1 h).2.2.2.2.1 (by decide)); cases this
   | true =>
    have hnm:=hb'.1 rfl
    by_cases cb:(0:Int) < (b.length:Int)
    ·simp -dsimp -implicitDefEqProofs only [↓STP,STQ,seval,List.length_map,eq_true cb]
     exact no fun h=>by have:=(VS_mk.1 h).2.2.2.2.2.2.1 (by decide); subst this; simp at cb
    by_cases ca:(0:Int) < (a.length:Int)
    ·simp -dsimp -implicitDefEqProofs only [↓STP,STQ,seval,List.length_map,eq_false cb,eq_true ca]
     exact no fun h=>by have:=(VS_mk.1 h).2.2.2.2.2.2.2.1 (by decide) (by decide); subst this; simp at ca
    simp -dsimp -implicitDefEqProofs only [↓STP,STQ,seval,List.length_map,eq_false cb,eq_false ca]
    refine codeT_for (N:=1) (fun i=>⟨upd (upd (upd (upd ρ0 1 (I lv)) 2 (.lptr 0 5 0)) 5 (I 1)) 7 (I i),upd m0 0 (some [I 1,.str s,.vec (e.map Exp.v) .any,.vec (a.map Stm.v) .any,.vec (b.map Stm.v) .any]),1,[],h⟩) (fun i=>∀ x ∈ e.take i,VE x (lv + 1)) (by simp -dsimp -implicitDefEqProofs only [↓STP,STQ,seval] <;> rfl) (by simp) (fun i hi hp=>?_) (fun hp=>?_) mono
    ·have hi':i < e.length:=by omega
     simp -dsimp -implicitDefEqProofs only [↓STP,STQ,seval,eq_true (show (i:Int) < 1 by omega),get_map hi',Exp.v_clen,Exp.v_tk,Exp.v_ag,Exp.v_out,wl]
     refine expr27 _ (lv + 1) h _ (he _ (List.getElem_mem hi')) (by omega) fun b' hb'=>?_
     cases b' with
     | false =>
      simp -dsimp -implicitDefEqProofs only [↓STP,STQ,seval]
      exact no fun h=>by have:=hb'.2 ((VS_mk.1 h).2.2.2.2.2.2.2.2.1 _ (List.getElem_mem hi')); cases this
     | true =>
      simp -dsimp -implicitDefEqProofs only [↓STP,STQ,seval,wiM (show i < 9223372036854775807 by omega)]
      intro x hx
      rw [List.take_add_one,List.getElem?_eq_getElem hi'] at hx
      rcases List.mem_append.1 hx with hx | hx
      ·exact hp x hx
      ·simp at hx; subst hx; exact hb'.1 rfl
    ·rw [List.take_of_length_le (by omega)] at hp
     simp -dsimp -implicitDefEqProofs only [↓STP,STQ,seval,wl]
     refine stmts27_of a iha hla ha hlv' fun b1 hb1=>?_
     cases b1 with
     | false =>
      simp -dsimp -implicitDefEqProofs only [↓STP,STQ,seval]
      exact no fun h=>by have:=hb1.2 (VS_mk.1 h).2.2.2.2.2.2.2.2.2.1; cases this
     | true =>
      simp -dsimp -implicitDefEqProofs only [↓STP,STQ,seval,wl]
      refine stmts27_of b ihb hlb hb hlv' fun b2 hb2=>?_
      cases b2 with
      | false =>
       simp -dsimp -implicitDefEqProofs only [↓STP,STQ,seval]
       exact no fun h=>by have:=hb2.2 (VS_mk.1 h).2.2.2.2.2.2.2.2.2.2; cases this
      | true =>
       simp -dsimp -implicitDefEqProofs only [↓STP,STQ,seval]
       exact hK true (iff_of_true rfl (VS_mk.2 ⟨by omega,by omega,by omega,by simpa using ce',fun _=>hnm,fun h=>absurd h (by simp),fun _=>List.eq_nil_of_length_eq_zero (by omega),fun _ _=>List.eq_nil_of_length_eq_zero (by omega),hp,hb1.1 rfl,hb2.1 rfl⟩))
  ·by_cases ce:(e.length:Int)=2
   rotate_left
   ·simp -dsimp -implicitDefEqProofs only [↓STP,STQ,seval,Stm.v_mk,ir56,c0,List.length_map,eq_false ce]
    exact no fun h=>ce (by have:=(VS_mk.1 h).2.2.2.1; simp at this; omega)
   have ce':e.length=2:=by omega
   simp -dsimp -implicitDefEqProofs only [↓STP,STQ,seval,Stm.v_mk,ir56,c0,List.length_map,ce']
   refine isName_spec hs fun b' hb'=>?_
   cases b' with
   | false =>
    simp -dsimp -implicitDefEqProofs only [↓STP,STQ,seval]
    exact no fun h=>by have:=hb'.2 ((VS_mk.1 h).2.2.2.2.1 (by decide)); cases this
   | true =>
    have hnm:=hb'.1 rfl
    by_cases cb:(0:Int) < (b.length:Int)
    ·simp -dsimp -implicitDefEqProofs only [↓STP,STQ,seval,List.length_map,eq_true cb]
     exact no fun h=>by have:=(VS_mk.1 h).2.2.2.2.2.2.1 (by decide); subst this; simp at cb
    by_cases ca:(0:Int) < (a.length:Int)
    ·simp -dsimp -implicitDefEqProofs only [↓STP,STQ,seval,List.length_map,eq_false cb,eq_true ca]
     exact no fun h=>by have:=(VS_mk.1 h).2.2.2.2.2.2.2.1 (by decide) (by decide); subst this; simp at ca
    simp -dsimp -implicitDefEqProofs only [↓STP,STQ,seval,List.length_map,eq_false cb,eq_false ca]
    refine codeT_for (N:=2) (fun i=>⟨upd (upd (upd (upd ρ0 1 (I lv)) 2 (.lptr 0 5 0)) 5 (I 2)) 7 (I i),upd m0 0 (some [I 2,.str s,.vec (e.map Exp.v) .any,.vec (a.map Stm.v) .any,.vec (b.map Stm.v) .any]),1,[],h⟩) (fun i=>∀ x ∈ e.take i,VE x (lv + 1)) (by simp -dsimp -implicitDefEqProofs only [↓STP,STQ,seval] <;> rfl) (by simp) (fun i hi hp=>?_) (fun hp=>?_) mono
    ·have hi':i < e.length:=by omega
     simp -dsimp -implicitDefEqProofs only [↓STP,STQ,seval,eq_true (show (i:Int) < 2 by omega),get_map hi',Exp.v_clen,Exp.v_tk,Exp.v_ag,Exp.v_out,wl]
     refine expr27 _ (lv + 1) h _ (he _ (List.getElem_mem hi')) (by omega) fun b' hb'=>?_
     cases b' with
     | false =>
      simp -dsimp -implicitDefEqProofs only [↓STP,STQ,seval]
      exact no fun h=>by have:=hb'.2 ((VS_mk.1 h).2.2.2.2.2.2.2.2.1 _ (List.getElem_mem hi')); cases this
     | true =>
      simp -dsimp -implicitDefEqProofs only [↓STP,STQ,seval,wiM (show i < 9223372036854775807 by omega)]
      intro x hx
      rw [List.take_add_one,List.getElem?_eq_getElem hi'] at hx
      rcases List.mem_append.1 hx with hx | hx
      ·exact hp x hx
      ·simp at hx; subst hx; exact hb'.1 rfl
    ·rw [List.take_of_length_le (by omega)] at hp
     simp -dsimp -implicitDefEqProofs only [↓STP,STQ,seval,wl]
     refine stmts27_of a iha hla ha hlv' fun b1 hb1=>?_
     cases b1 with
     | false =>
      simp -dsimp -implicitDefEqProofs only [↓STP,STQ,seval]
      exact no fun h=>by have:=hb1.2 (VS_mk.1 h).2.2.2.2.2.2.2.2.2.1; cases this
     | true =>
      simp -dsimp -implicitDefEqProofs only [↓STP,STQ,seval,wl]
      refine stmts27_of b ihb hlb hb hlv' fun b2 hb2=>?_
      cases b2 with
      | false =>
       simp -dsimp -implicitDefEqProofs only [↓STP,STQ,seval]
       exact no fun h=>by have:=hb2.2 (VS_mk.1 h).2.2.2.2.2.2.2.2.2.2; cases this
      | true =>
       simp -dsimp -implicitDefEqProofs only [↓STP,STQ,seval]
       exact hK true (iff_of_true rfl (VS_mk.2 ⟨by omega,by omega,by omega,by simpa using ce',fun _=>hnm,fun h=>absurd h (by simp),fun _=>List.eq_nil_of_length_eq_zero (by omega),fun _ _=>List.eq_nil_of_length_eq_zero (by omega),hp,hb1.1 rfl,hb2.1 rfl⟩))
  ·by_cases ce:(e.length:Int)=1
   rotate_left
   ·simp -dsimp -implicitDefEqProofs only [↓STP,STQ,seval,Stm.v_mk,ir56,c0,List.length_map,eq_false ce]
    exact no fun h=>ce (by have:=(VS_mk.1 h).2.2.2.1; simp at this; omega)
   have ce':e.length=1:=by omega
   by_cases hnm:s=noName
   rotate_left
   ·simp -dsimp -implicitDefEqProofs only [↓STP,STQ,seval,Stm.v_mk,ir56,c0,List.length_map,ce',binS,bneS,eq_false (show ¬ s=⟨#[]⟩ from hnm)]
    exact no fun h=>hnm ((VS_mk.1 h).2.2.2.2.2.1 (by decide))
   simp -dsimp -implicitDefEqProofs only [↓STP,STQ,seval,Stm.v_mk,ir56,c0,List.length_map,ce',binS,bneS,eq_true (show s=⟨#[]⟩ from hnm)]
   refine codeT_for (N:=1) (fun i=>⟨upd (upd (upd (upd ρ0 1 (I lv)) 2 (.lptr 0 5 0)) 5 (I 1)) 7 (I i),upd m0 0 (some [I 3,.str s,.vec (e.map Exp.v) .any,.vec (a.map Stm.v) .any,.vec (b.map Stm.v) .any]),1,[],h⟩) (fun i=>∀ x ∈ e.take i,VE x (lv + 1)) (by simp -dsimp -implicitDefEqProofs only [↓STP,STQ,seval] <;> rfl) (by simp) (fun i hi hp=>?_) (fun hp=>?_) mono
   ·have hi':i < e.length:=by omega
    simp -dsimp -implicitDefEqProofs only [↓STP,STQ,seval,eq_true (show (i:Int) < 1 by omega),get_map hi',Exp.v_clen,Exp.v_tk,Exp.v_ag,Exp.v_out,wl]
    refine expr27 _ (lv + 1) h _ (he _ (List.getElem_mem hi')) (by omega) fun b' hb'=>?_
    cases b' with
    | false =>
     simp -dsimp -implicitDefEqProofs only [↓STP,STQ,seval]
     exact no fun h=>by have:=hb'.2 ((VS_mk.1 h).2.2.2.2.2.2.2.2.1 _ (List.getElem_mem hi')); cases this
    | true =>
     simp -dsimp -implicitDefEqProofs only [↓STP,STQ,seval,wiM (show i < 9223372036854775807 by omega)]
     intro x hx
     rw [List.take_add_one,List.getElem?_eq_getElem hi'] at hx
     rcases List.mem_append.1 hx with hx | hx
     ·exact hp x hx
     ·simp at hx; subst hx; exact hb'.1 rfl
   ·rw [List.take_of_length_le (by omega)] at hp
    simp -dsimp -implicitDefEqProofs only [↓STP,STQ,seval,wl]
    refine stmts27_of a iha hla ha hlv' fun b1 hb1=>?_
    cases b1 with
    | false =>
     simp -dsimp -implicitDefEqProofs only [↓STP,STQ,seval]
     exact no fun h=>by have:=hb1.2 (VS_mk.1 h).2.2.2.2.2.2.2.2.2.1; cases this
    | true =>
     simp -dsimp -implicitDefEqProofs only [↓STP,STQ,seval,wl]
     refine stmts27_of b ihb hlb hb hlv' fun b2 hb2=>?_
     cases b2 with
     | false =>
      simp -dsimp -implicitDefEqProofs only [↓STP,STQ,seval]
      exact no fun h=>by have:=hb2.2 (VS_mk.1 h).2.2.2.2.2.2.2.2.2.2; cases this
     | true =>
      simp -dsimp -implicitDefEqProofs only [↓STP,STQ,seval]
      exact hK true (iff_of_true rfl (VS_mk.2 ⟨by omega,by omega,by omega,by simpa using ce',fun h=>absurd h (by simp),fun _=>hnm,fun h=>absurd rfl h,fun h=>absurd rfl h,hp,hb1.1 rfl,hb2.1 rfl⟩))
  ·by_cases ce:(e.length:Int)=2
   rotate_left
   ·simp -dsimp -implicitDefEqProofs only [↓STP,STQ,seval,Stm.v_mk,ir56,c0,List.length_map,eq_false ce]
    exact no fun h=>ce (by have:=(VS_mk.1 h).2.2.2.1; simp at this; omega)
   have ce':e.length=2:=by omega
   simp -dsimp -implicitDefEqProofs only [↓STP,STQ,seval,Stm.v_mk,ir56,c0,List.length_map,ce']
   refine isName_spec hs fun b' hb'=>?_
   cases b' with
   | false =>
    simp -dsimp -implicitDefEqProofs only [↓STP,STQ,seval]
    exact no fun h=>by have:=hb'.2 ((VS_mk.1 h).2.2.2.2.1 (by decide)); cases this
   | true =>
    have hnm:=hb'.1 rfl
    by_cases cb:(0:Int) < (b.length:Int)
    ·simp -dsimp -implicitDefEqProofs only [↓STP,STQ,seval,List.length_map,eq_true cb]
     exact no fun h=>by have:=(VS_mk.1 h).2.2.2.2.2.2.1 (by decide); subst this; simp at cb
    simp -dsimp -implicitDefEqProofs only [↓STP,STQ,seval,List.length_map,eq_false cb]
    refine codeT_for (N:=2) (fun i=>⟨upd (upd (upd (upd ρ0 1 (I lv)) 2 (.lptr 0 5 0)) 5 (I 2)) 7 (I i),upd m0 0 (some [I 4,.str s,.vec (e.map Exp.v) .any,.vec (a.map Stm.v) .any,.vec (b.map Stm.v) .any]),1,[],h⟩) (fun i=>∀ x ∈ e.take i,VE x (lv + 1)) (by simp -dsimp -implicitDefEqProofs only [↓STP,STQ,seval] <;> rfl) (by simp) (fun i hi hp=>?_) (fun hp=>?_) mono
    ·have hi':i < e.length:=by omega
     simp -dsimp -implicitDefEqProofs only [↓STP,STQ,seval,eq_true (show (i:Int) < 2 by omega),get_map hi',Exp.v_clen,Exp.v_tk,Exp.v_ag,Exp.v_out,wl]
     refine expr27 _ (lv + 1) h _ (he _ (List.getElem_mem hi')) (by omega) fun b' hb'=>?_
     cases b' with
     | false =>
      simp -dsimp -implicitDefEqProofs only [↓STP,STQ,seval]
      exact no fun h=>by have:=hb'.2 ((VS_mk.1 h).2.2.2.2.2.2.2.2.1 _ (List.getElem_mem hi')); cases this
     | true =>
      simp -dsimp -implicitDefEqProofs only [↓STP,STQ,seval,wiM (show i < 9223372036854775807 by omega)]
      intro x hx
      rw [List.take_add_one,List.getElem?_eq_getElem hi'] at hx
      rcases List.mem_append.1 hx with hx | hx
      ·exact hp x hx
      ·simp at hx; subst hx; exact hb'.1 rfl
    ·rw [List.take_of_length_le (by omega)] at hp
     simp -dsimp -implicitDefEqProofs only [↓STP,STQ,seval,wl]
     refine stmts27_of a iha hla ha hlv' fun b1 hb1=>?_
     cases b1 with
     | false =>
      simp -dsimp -implicitDefEqProofs only [↓STP,STQ,seval]
      exact no fun h=>by have:=hb1.2 (VS_mk.1 h).2.2.2.2.2.2.2.2.2.1; cases this
     | true =>
      simp -dsimp -implicitDefEqProofs only [↓STP,STQ,seval,wl]
      refine stmts27_of b ihb hlb hb hlv' fun b2 hb2=>?_
      cases b2 with
      | false =>
       simp -dsimp -implicitDefEqProofs only [↓STP,STQ,seval]
       exact no fun h=>by have:=hb2.2 (VS_mk.1 h).2.2.2.2.2.2.2.2.2.2; cases this
      | true =>
       simp -dsimp -implicitDefEqProofs only [↓STP,STQ,seval]
       exact hK true (iff_of_true rfl (VS_mk.2 ⟨by omega,by omega,by omega,by simpa using ce',fun _=>hnm,fun h=>absurd h (by simp),fun _=>List.eq_nil_of_length_eq_zero (by omega),fun _ h=>absurd rfl h,hp,hb1.1 rfl,hb2.1 rfl⟩))
  ·by_cases ce:(e.length:Int)=1
   rotate_left
   ·simp -dsimp -implicitDefEqProofs only [↓STP,STQ,seval,Stm.v_mk,ir56,c0,List.length_map,eq_false ce]
    exact no fun h=>ce (by have:=(VS_mk.1 h).2.2.2.1; simp at this; omega)
   have ce':e.length=1:=by omega
   by_cases hnm:s=noName
   rotate_left
   ·simp -dsimp -implicitDefEqProofs only [↓STP,STQ,seval,Stm.v_mk,ir56,c0,List.length_map,ce',binS,bneS,eq_false (show ¬ s=⟨#[]⟩ from hnm)]
    exact no fun h=>hnm ((VS_mk.1 h).2.2.2.2.2.1 (by decide))
   by_cases cb:(0:Int) < (b.length:Int)
   ·simp -dsimp -implicitDefEqProofs only [↓STP,STQ,seval,Stm.v_mk,ir56,c0,List.length_map,ce',binS,bneS,eq_true (show s=⟨#[]⟩ from hnm),eq_true cb]
    exact no fun h=>by have:=(VS_mk.1 h).2.2.2.2.2.2.1 (by decide); subst this; simp at cb
   by_cases ca:(0:Int) < (a.length:Int)
   ·simp -dsimp -implicitDefEqProofs only [↓STP,STQ,seval,Stm.v_mk,ir56,c0,List.length_map,ce',binS,bneS,eq_true (show s=⟨#[]⟩ from hnm),eq_false cb,eq_true ca]
    exact no fun h=>by have:=(VS_mk.1 h).2.2.2.2.2.2.2.1 (by decide) (by decide); subst this; simp at ca
   simp -dsimp -implicitDefEqProofs only [↓STP,STQ,seval,Stm.v_mk,ir56,c0,List.length_map,ce',binS,bneS,eq_true (show s=⟨#[]⟩ from hnm),eq_false cb,eq_false ca]
   refine codeT_for (N:=1) (fun i=>⟨upd (upd (upd (upd ρ0 1 (I lv)) 2 (.lptr 0 5 0)) 5 (I 1)) 7 (I i),upd m0 0 (some [I 5,.str s,.vec (e.map Exp.v) .any,.vec (a.map Stm.v) .any,.vec (b.map Stm.v) .any]),1,[],h⟩) (fun i=>∀ x ∈ e.take i,VE x (lv + 1)) (by simp -dsimp -implicitDefEqProofs only [↓STP,STQ,seval] <;> rfl) (by simp) (fun i hi hp=>?_) (fun hp=>?_) mono
   ·have hi':i < e.length:=by omega
    simp -dsimp -implicitDefEqProofs only [↓STP,STQ,seval,eq_true (show (i:Int) < 1 by omega),get_map hi',Exp.v_clen,Exp.v_tk,Exp.v_ag,Exp.v_out,wl]
    refine expr27 _ (lv + 1) h _ (he _ (List.getElem_mem hi')) (by omega) fun b' hb'=>?_
    cases b' with
    | false =>
     simp -dsimp -implicitDefEqProofs only [↓STP,STQ,seval]
     exact no fun h=>by have:=hb'.2 ((VS_mk.1 h).2.2.2.2.2.2.2.2.1 _ (List.getElem_mem hi')); cases this
    | true =>
     simp -dsimp -implicitDefEqProofs only [↓STP,STQ,seval,wiM (show i < 9223372036854775807 by omega)]
     intro x hx
     rw [List.take_add_one,List.getElem?_eq_getElem hi'] at hx
     rcases List.mem_append.1 hx with hx | hx
     ·exact hp x hx
     ·simp at hx; subst hx; exact hb'.1 rfl
   ·rw [List.take_of_length_le (by omega)] at hp
    simp -dsimp -implicitDefEqProofs only [↓STP,STQ,seval,wl]
    refine stmts27_of a iha hla ha hlv' fun b1 hb1=>?_
    cases b1 with
    | false =>
     simp -dsimp -implicitDefEqProofs only [↓STP,STQ,seval]
     exact no fun h=>by have:=hb1.2 (VS_mk.1 h).2.2.2.2.2.2.2.2.2.1; cases this
    | true =>
     simp -dsimp -implicitDefEqProofs only [↓STP,STQ,seval,wl]
     refine stmts27_of b ihb hlb hb hlv' fun b2 hb2=>?_
     cases b2 with
     | false =>
      simp -dsimp -implicitDefEqProofs only [↓STP,STQ,seval]
      exact no fun h=>by have:=hb2.2 (VS_mk.1 h).2.2.2.2.2.2.2.2.2.2; cases this
     | true =>
      simp -dsimp -implicitDefEqProofs only [↓STP,STQ,seval]
      exact hK true (iff_of_true rfl (VS_mk.2 ⟨by omega,by omega,by omega,by simpa using ce',fun h=>absurd h (by simp),fun _=>hnm,fun _=>List.eq_nil_of_length_eq_zero (by omega),fun _ _=>List.eq_nil_of_length_eq_zero (by omega),hp,hb1.1 rfl,hb2.1 rfl⟩))
theorem stmts27 {l:List Stm} (hl:l.length ≤ maxLen) (ok:∀ x ∈ l,SOk x) {lv:Nat} (hlv:lv ≤ 100)
  (hK:∀ b:Bool,(b=true ↔ VSs l lv)→K (.ret (.bool b)) h):R 32 [.vec (l.map Stm.v) .any,I lv] h K:=
 stmts27_of l (fun x _=>stmt27 x) hl ok hlv hK
end
end YtemlhjlceeiflaaDoor
end Go.Ab
namespace Go.Ab
theorem bsz {a:Array UInt8}:ByteArray.size ⟨a⟩=a.size:=rfl
theorem addS {a b:ByteArray} (h:a.size + b.size ≤ 9223372036854775807):binS .add a b=some (.str (a ++ b)):=by simp only [binS,if_pos h]
theorem len1 {α:Type} {l:List α} (h:l.length=1):∃ a,l=[a]:=by
 match l,h with
 | [a],_=>exact ⟨a,rfl⟩
theorem len2 {α:Type} {l:List α} (h:l.length=2):∃ a b,l=[a,b]:=by
 match l,h with
 | [a,b],_=>exact ⟨a,b,rfl⟩
theorem len3 {α:Type} {l:List α} (h:l.length=3):∃ a b c,l=[a,b,c]:=by
 match l,h with
 | [a,b,c],_=>exact ⟨a,b,c,rfl⟩
theorem kidsN_cases {k:Int} {n:Nat} (h:kidsN k=n):k=1∨k=2∨k=3∨k=4∨k=5∨k=6:=by
 unfold kidsN at h
 split at h
 ·omega
 ·split at h
  ·omega
  ·split at h
   ·omega
   ·split at h <;> omega
def dlen (n:Nat):Nat:=if n < 10 then 1 else 1 + dlen (n / 10)
theorem dlen_small {n:Nat} (h:n < 10):dlen n=1:=by rw [dlen,if_pos h]
theorem dlen_big {n:Nat} (h:¬ n < 10):dlen n=1 + dlen (n / 10):=by rw [dlen,if_neg h]
theorem dlen_le:∀ {k n:Nat},n < 10 ^ k→dlen n ≤ max k 1
 | 0, n, h => by have : n = 0 := by simpa using h
                 subst this; rw [dlen_small (by decide)]; decide
 | k + 1,n,h=>by
  by_cases h1:n < 10
  ·rw [dlen_small h1]; omega
  ·rw [dlen_big h1]
   have h2:n / 10 < 10 ^ k:=by rw [Nat.div_lt_iff_lt_mul (by decide),← Nat.pow_succ]; exact h
   have:=dlen_le h2
   rcases Nat.eq_zero_or_pos k with hk | hk
   ·subst hk; simp at h2; omega
   ·omega
theorem dlen_le20 {n:Nat} (h:n < 18446744073709551616):dlen n ≤ 20:=dlen_le (k:=20) (by omega)
def precE (k o:Int):Int:=if k=6 then 1 else if k=5 then 8 else if k=4 then (if o=7 then 2 else if o=6 then 3 else if o=5 then 4 else if o=4 then 5 else if o=3 then 7 else 6) else 9
def held (x:Int × Nat) (m:Int):Nat:=if x.1 < m then x.2 + 2 else x.2
def nth (l:List (Int × Nat)) (i:Nat):Int × Nat:=l.getD i (9,0)
def tlenOf (k o:Int) (n:Nat) (s:ByteArray) (l:List (Int × Nat)):Nat:=
 if k=1 then dlen n else if k=2 then s.size else if k=3 then s.size + 1 + (nth l 0).2 + 1 else if k=5 then 1 + held (nth l 0) 8
 else if k=6 then held (nth l 0) 2 + 3 + (nth l 1).2 + 3 + (nth l 2).2
 else held (nth l 0) (precE k o) + 1 + (if o=5 then 2 else 1) + 1 + held (nth l 1) (precE k o + 1)
mutual
def tlen:Exp→Nat
 | .mk k o n s ks=>tlenOf k o n s (tlens ks)
def tlens:List Exp→List (Int × Nat)
 | []=>[]
 | e :: es=>(precE e.kind e.op,tlen e) :: tlens es
end
def tl (e:Exp):Int × Nat:=(precE e.kind e.op,tlen e)
theorem tlens_map:∀ l:List Exp,tlens l=l.map tl
 | []=>rfl
 | e :: es=>by rw [tlens,tlens_map es]; rfl
theorem tlen_mk {k o:Int} {n:Nat} {s:ByteArray} {ks:List Exp}:tlen (.mk k o n s ks)=tlenOf k o n s (ks.map tl):=by rw [tlen,tlens_map]
namespace YtemlhjlceeiflaaDoor
section
variable {h:H} {K:Out→H→Prop}
theorem dec27 {n:Nat} (hn:n < 18446744073709551616) (hK:∀ s:ByteArray,s.size=dlen n→K (.ret (.str s)) h):R 81 [W n] h K:=by
 refine run81 (Nat.le_of_ble_eq_true rfl) ?_
 have w1:∀ {n:Nat},IntKind.u64.wrap (48 + Int.tmod (n:Int) 10)=((48 + n % 10:Nat):Int):=fun {n}=>by
  rw [show Int.tmod (n:Int) 10=((n % 10:Nat):Int) from rfl,wrap_u64_self] <;> omega
 simp -dsimp -implicitDefEqProofs only [↓STP,STQ,seval,ir81,w1,bytesOf]
 refine codeT_loop (fun k st=>∃ (m:Nat) (s:ByteArray),k=m∧m ≤ n∧s.size + dlen m=dlen n + 1∧s.size ≤ 30∧st=⟨upd (upd ρ0 0 (W m)) 3 (.str s),m0,0,[],h⟩) (i:=n) ⟨n,_,rfl,Nat.le_refl _,?_,?_,by simp -dsimp -implicitDefEqProofs only [↓STP,STQ,seval] <;> rfl⟩ ?_ mono
 ·simp only [bsz,List.size_toArray,List.length_cons,List.length_nil]; omega
 ·simp only [bsz,List.size_toArray,List.length_cons,List.length_nil]; omega
 rintro m st ⟨_,s,rfl,hm,hs,hs2,rfl⟩
 have hd:=dlen_le20 hn
 by_cases c:(10:Int) ≤ (m:Int)
 ·have q1:IntKind.u64.wrap (Int.tdiv (m:Int) 10)=((m / 10:Nat):Int):=by
   rw [show Int.tdiv (m:Int) 10=((m / 10:Nat):Int) from rfl,wrap_u64_self] <;> omega
  have hdm:=dlen_big (show ¬ m < 10 by omega)
  simp -dsimp -implicitDefEqProofs (disch:=first | (simp -dsimp only [↓STP,STQ,seval]; done) | omega | (simp only [ByteArray.size_append,bsz,List.size_toArray,List.length_cons,List.length_nil]; omega)) only [↓STP,STQ,seval,addS,eq_true c,q1,w1,bytesOf]
  refine ⟨m / 10,by omega,m / 10,_,rfl,by omega,?_,?_,rfl⟩
  ·simp only [ByteArray.size_append,bsz,List.size_toArray,List.length_cons,List.length_nil]; omega
  ·simp only [ByteArray.size_append,bsz,List.size_toArray,List.length_cons,List.length_nil]; omega
 ·have hdm:=dlen_small (show m < 10 by omega)
  simp -dsimp -implicitDefEqProofs only [↓STP,STQ,seval,eq_false c]
  exact hK s (by omega)
theorem prec27 {e:Exp} (hK:K (.ret (I (precE e.kind e.op))) h):R 93 [e.v] h K:=by
 obtain ⟨k,o,n,s,ks⟩:=e
 refine run93 (Nat.le_of_ble_eq_true rfl) ?_
 by_cases c6:k=6
 ·simp -dsimp -implicitDefEqProofs only [↓STP,STQ,seval,Exp.v_mk,ir93,eq_true c6]
  simpa [Exp.kind,Exp.op,precE,c6] using hK
 by_cases c5:k=5
 ·simp -dsimp -implicitDefEqProofs only [↓STP,STQ,seval,Exp.v_mk,ir93,eq_false c6,eq_true c5]
  simpa [Exp.kind,Exp.op,precE,c5] using hK
 by_cases c4:k=4
 ·by_cases o7:o=7
  ·simp -dsimp -implicitDefEqProofs only [↓STP,STQ,seval,Exp.v_mk,ir93,eq_false c6,eq_false c5,eq_true c4,eq_true o7]
   simpa [Exp.kind,Exp.op,precE,c4,o7] using hK
  by_cases o6:o=6
  ·simp -dsimp -implicitDefEqProofs only [↓STP,STQ,seval,Exp.v_mk,ir93,eq_false c6,eq_false c5,eq_true c4,eq_false o7,eq_true o6]
   simpa [Exp.kind,Exp.op,precE,c4,o6] using hK
  by_cases o5:o=5
  ·simp -dsimp -implicitDefEqProofs only [↓STP,STQ,seval,Exp.v_mk,ir93,eq_false c6,eq_false c5,eq_true c4,eq_false o7,eq_false o6,eq_true o5]
   simpa [Exp.kind,Exp.op,precE,c4,o5] using hK
  by_cases o4:o=4
  ·simp -dsimp -implicitDefEqProofs only [↓STP,STQ,seval,Exp.v_mk,ir93,eq_false c6,eq_false c5,eq_true c4,eq_false o7,eq_false o6,eq_false o5,eq_true o4]
   simpa [Exp.kind,Exp.op,precE,c4,o4] using hK
  by_cases o3:o=3
  ·simp -dsimp -implicitDefEqProofs only [↓STP,STQ,seval,Exp.v_mk,ir93,eq_false c6,eq_false c5,eq_true c4,eq_false o7,eq_false o6,eq_false o5,eq_false o4,eq_true o3]
   simpa [Exp.kind,Exp.op,precE,c4,o3] using hK
  simp -dsimp -implicitDefEqProofs only [↓STP,STQ,seval,Exp.v_mk,ir93,eq_false c6,eq_false c5,eq_true c4,eq_false o7,eq_false o6,eq_false o5,eq_false o4,eq_false o3]
  simpa [Exp.kind,Exp.op,precE,c4,o7,o6,o5,o4,o3] using hK
 simp -dsimp -implicitDefEqProofs only [↓STP,STQ,seval,Exp.v_mk,ir93,eq_false c6,eq_false c5,eq_false c4]
 simpa [Exp.kind,Exp.op,precE,c6,c5,c4] using hK
theorem sign27 {o:Int} (h1:1 ≤ o) (h2:o ≤ 7) (hK:∀ s:ByteArray,s.size=(if o=5 then 2 else 1)→K (.ret (.str s)) h):R 94 [I o] h K:=by
 refine run94 (Nat.le_of_ble_eq_true rfl) ?_
 have kk:o=1∨o=2∨o=3∨o=4∨o=5∨o=6∨o=7:=by omega
 have ww:∀ {a b:Int},a=b→0 ≤ b→b ≤ 10→IntKind.i64.wrap a=b:=fun h1 h2 h3=>by rw [h1,wrap_i64] <;> omega
 have w0:=ww (a:=0) rfl (by decide) (by decide)
 have w1:=ww (a:=1) rfl (by decide) (by decide)
 have w2:=ww (a:=2) rfl (by decide) (by decide)
 have w3:=ww (a:=3) rfl (by decide) (by decide)
 have w4:=ww (a:=4) rfl (by decide) (by decide)
 have w5:=ww (a:=5) rfl (by decide) (by decide)
 have w6:=ww (a:=6) rfl (by decide) (by decide)
 rcases kk with rfl | rfl | rfl | rfl | rfl | rfl | rfl
 all_goals
  simp -dsimp -implicitDefEqProofs only [↓STP,STQ,seval,ir94,w0,w1,w2,w3,w4,w5,w6]
  exact hK _ rfl
def TextOk (e:Exp):Prop:=∀ (h:H) (K:Out→H→Prop),(∀ s:ByteArray,s.size=tlen e→K (.ret (.str s)) h)→R 82 [e.v] h K
theorem paren27 {e:Exp} {m:Int} (ok:TextOk e) (hl:held (tl e) m ≤ 1000000000) (hK:∀ s:ByteArray,s.size=held (tl e) m→K (.ret (.str s)) h):R 92 [e.v,I m] h K:=by
 refine run92 (Nat.le_of_ble_eq_true rfl) ?_
 obtain ⟨k,o,n,s,ks⟩:=e
 have hpe:precE (Exp.mk k o n s ks).kind (Exp.mk k o n s ks).op=precE k o:=rfl
 by_cases c:precE k o < m
 ·have hh:held (tl (.mk k o n s ks)) m=tlen (.mk k o n s ks) + 2:=if_pos c
  rw [hh] at hl hK
  simp -dsimp -implicitDefEqProofs only [↓STP,STQ,seval,Exp.v_mk,ir92]
  rw [← Exp.v_mk]
  refine prec27 ?_
  simp -dsimp -implicitDefEqProofs only [↓STP,STQ,seval,Exp.v_mk,hpe,c]
  rw [← Exp.v_mk]
  refine ok _ _ fun s hs=>?_
  simp -dsimp -implicitDefEqProofs (disch:=first | (simp -dsimp only [↓STP,STQ,seval]; done) | omega | (simp only [ByteArray.size_append,bsz,List.size_toArray,List.length_cons,List.length_nil]; omega)) only [↓STP,STQ,seval,addS]
  exact hK _ (by simp only [ByteArray.size_append,bsz,List.size_toArray,List.length_cons,List.length_nil]; omega)
 ·have hh:held (tl (.mk k o n s ks)) m=tlen (.mk k o n s ks):=if_neg c
  rw [hh] at hl hK
  simp -dsimp -implicitDefEqProofs only [↓STP,STQ,seval,Exp.v_mk,ir92]
  rw [← Exp.v_mk]
  refine prec27 ?_
  simp -dsimp -implicitDefEqProofs only [↓STP,STQ,seval,Exp.v_mk,hpe,c]
  rw [← Exp.v_mk]
  refine ok _ _ fun s hs=>?_
  simp -dsimp -implicitDefEqProofs only [↓STP,STQ,seval]
  exact hK s hs
theorem text27 (e:Exp):∀ lv,VE e lv→EOk e→tlen e ≤ 1000000000→TextOk e:=by
 induction e using Exp.ind with
 | h k o n s ks ih =>
  intro lv hv ok hl h K hK
  obtain ⟨v1,v2,v3,v4,v5,v6,v7,v8,v9⟩:=VE_mk.1 hv
  obtain ⟨_,_,hn,hs,_,hks⟩:=EOk_mk ok
  rw [tlen_mk] at hl hK
  have one:∀ (x:Exp),x ∈ ks→tlen x ≤ 1000000000→TextOk x:=fun x hx hl=>ih _ hx (lv + 1) (v9 _ hx) (hks _ hx) hl
  refine run82 (Nat.le_of_ble_eq_true rfl) ?_
  by_cases c1:k=1
  ·subst c1
   have ht:tlenOf 1 o n s (ks.map tl)=dlen n:=if_pos rfl
   rw [ht] at hl hK
   simp -dsimp -implicitDefEqProofs only [↓STP,STQ,seval,Exp.v_mk,ir82]
   refine dec27 hn fun s hs=>?_
   simp -dsimp -implicitDefEqProofs only [↓STP,STQ,seval]
   exact hK s hs
  by_cases c2:k=2
  ·subst c2
   have ht:tlenOf 2 o n s (ks.map tl)=s.size:=by simp [tlenOf]
   rw [ht] at hl hK
   simp -dsimp -implicitDefEqProofs only [↓STP,STQ,seval,Exp.v_mk,ir82]
   exact hK s rfl
  by_cases c3:k=3
  ·subst c3
   obtain ⟨a,rfl⟩:=len1 (show ks.length=1 by have:kidsN _=(ks.length:Int):=v2; simp [kidsN] at this; omega)
   ·skip
    have ht:tlenOf 3 o n s ([a].map tl)=s.size + 1 + tlen a + 1:=by simp [tlenOf,nth,tl]
    rw [ht] at hl hK
    simp -dsimp -implicitDefEqProofs (disch:=first | (simp -dsimp only [↓STP,STQ,seval]; done) | omega | (simp only [ByteArray.size_append,bsz,List.size_toArray,List.length_cons,List.length_nil]; omega)) only [↓STP,STQ,seval,addS,Exp.v_mk,Exp.v_clen,Exp.v_tk,Exp.v_ag,Exp.v_out,ir82]
    refine one a (by simp) (by omega) _ _ fun s1 h1=>?_
    simp -dsimp -implicitDefEqProofs (disch:=first | (simp -dsimp only [↓STP,STQ,seval]; done) | omega | (simp only [ByteArray.size_append,bsz,List.size_toArray,List.length_cons,List.length_nil]; omega)) only [↓STP,STQ,seval,addS]
    exact hK _ (by simp only [ByteArray.size_append,bsz,List.size_toArray,List.length_cons,List.length_nil]; omega)
  by_cases c5:k=5
  ·subst c5
   obtain ⟨a,rfl⟩:=len1 (show ks.length=1 by have:kidsN _=(ks.length:Int):=v2; simp [kidsN] at this; omega)
   ·skip
    have ht:tlenOf 5 o n s ([a].map tl)=1 + held (tl a) 8:=by simp [tlenOf,nth]
    rw [ht] at hl hK
    have hh:tlen a ≤ held (tl a) 8:=by unfold held; split <;> simp only [tl] <;> omega
    simp -dsimp -implicitDefEqProofs (disch:=first | (simp -dsimp only [↓STP,STQ,seval]; done) | omega | (simp only [ByteArray.size_append,bsz,List.size_toArray,List.length_cons,List.length_nil]; omega)) only [↓STP,STQ,seval,addS,Exp.v_mk,Exp.v_clen,Exp.v_tk,Exp.v_ag,Exp.v_out,ir82]
    refine paren27 (one a (by simp) (by omega)) (by omega) fun s1 h1=>?_
    simp -dsimp -implicitDefEqProofs (disch:=first | (simp -dsimp only [↓STP,STQ,seval]; done) | omega | (simp only [ByteArray.size_append,bsz,List.size_toArray,List.length_cons,List.length_nil]; omega)) only [↓STP,STQ,seval,addS]
    exact hK _ (by simp only [ByteArray.size_append,bsz,List.size_toArray,List.length_cons,List.length_nil]; omega)
  by_cases c6:k=6
  ·subst c6
   obtain ⟨a,b,c,rfl⟩:=len3 (show ks.length=3 by have:kidsN _=(ks.length:Int):=v2; simp [kidsN] at this; omega)
   ·skip
    have ht:tlenOf 6 o n s ([a,b,c].map tl)=held (tl a) 2 + 3 + tlen b + 3 + tlen c:=by simp [tlenOf,nth,tl]
    rw [ht] at hl hK
    have hh:tlen a ≤ held (tl a) 2:=by unfold held; split <;> simp only [tl] <;> omega
    simp -dsimp -implicitDefEqProofs (disch:=first | (simp -dsimp only [↓STP,STQ,seval]; done) | omega | (simp only [ByteArray.size_append,bsz,List.size_toArray,List.length_cons,List.length_nil]; omega)) only [↓STP,STQ,seval,addS,Exp.v_mk,Exp.v_clen,Exp.v_tk,Exp.v_ag,Exp.v_out,ir82]
    refine paren27 (one a (by simp) (by omega)) (by omega) fun s1 h1=>?_
    simp -dsimp -implicitDefEqProofs (disch:=first | (simp -dsimp only [↓STP,STQ,seval]; done) | omega | (simp only [ByteArray.size_append,bsz,List.size_toArray,List.length_cons,List.length_nil]; omega)) only [↓STP,STQ,seval,addS,Exp.v_clen,Exp.v_tk,Exp.v_ag,Exp.v_out]
    refine one b (by simp) (by omega) _ _ fun s2 h2=>?_
    simp -dsimp -implicitDefEqProofs (disch:=first | (simp -dsimp only [↓STP,STQ,seval]; done) | omega | (simp only [ByteArray.size_append,bsz,List.size_toArray,List.length_cons,List.length_nil]; omega)) only [↓STP,STQ,seval,addS,Exp.v_clen,Exp.v_tk,Exp.v_ag,Exp.v_out]
    refine one c (by simp) (by omega) _ _ fun s3 h3=>?_
    simp -dsimp -implicitDefEqProofs (disch:=first | (simp -dsimp only [↓STP,STQ,seval]; done) | omega | (simp only [ByteArray.size_append,bsz,List.size_toArray,List.length_cons,List.length_nil]; omega)) only [↓STP,STQ,seval,addS]
    exact hK _ (by simp only [ByteArray.size_append,bsz,List.size_toArray,List.length_cons,List.length_nil]; omega)
  ·have c4:k=4:=by have:=kidsN_cases v2; omega
   subst c4
   obtain ⟨o1,o2⟩:=v5 rfl
   obtain ⟨a,b,rfl⟩:=len2 (show ks.length=2 by have:kidsN _=(ks.length:Int):=v2; simp [kidsN] at this; omega)
   ·skip
    have ht:tlenOf 4 o n s ([a,b].map tl)=held (tl a) (precE 4 o) + 1 + (if o=5 then 2 else 1) + 1 + held (tl b) (precE 4 o + 1):=by simp [tlenOf,nth]
    rw [ht] at hl hK
    have hha:tlen a ≤ held (tl a) (precE 4 o):=by unfold held; split <;> simp only [tl] <;> omega
    have hhb:tlen b ≤ held (tl b) (precE 4 o + 1):=by unfold held; split <;> simp only [tl] <;> omega
    have hp:2 ≤ precE 4 o∧precE 4 o ≤ 7:=by
     have:precE 4 o=(if o=7 then 2 else if o=6 then 3 else if o=5 then 4 else if o=4 then 5 else if o=3 then 7 else 6):=by simp [precE]
     rw [this]
     repeat' split
     all_goals omega
    have wp:IntKind.i64.wrap (precE 4 o + 1)=precE 4 o + 1:=by rw [wrap_i64] <;> omega
    have hpe:precE (Exp.mk 4 o n s [a,b]).kind (Exp.mk 4 o n s [a,b]).op=precE 4 o:=rfl
    simp -dsimp -implicitDefEqProofs (disch:=first | (simp -dsimp only [↓STP,STQ,seval]; done) | omega | (simp only [ByteArray.size_append,bsz,List.size_toArray,List.length_cons,List.length_nil]; omega)) only [↓STP,STQ,seval,addS,Exp.v_mk,ir82]
    refine prec27 (e:=.mk 4 o n s [a,b]) ?_
    rw [hpe]
    simp -dsimp -implicitDefEqProofs (disch:=first | (simp -dsimp only [↓STP,STQ,seval]; done) | omega | (simp only [ByteArray.size_append,bsz,List.size_toArray,List.length_cons,List.length_nil]; omega)) only [↓STP,STQ,seval,addS,Exp.v_clen,Exp.v_tk,Exp.v_ag,Exp.v_out,wp]
    refine paren27 (one a (by simp) (by omega)) (by omega) fun s1 h1=>?_
    simp -dsimp -implicitDefEqProofs (disch:=first | (simp -dsimp only [↓STP,STQ,seval]; done) | omega | (simp only [ByteArray.size_append,bsz,List.size_toArray,List.length_cons,List.length_nil]; omega)) only [↓STP,STQ,seval,addS,Exp.v_clen,Exp.v_tk,Exp.v_ag,Exp.v_out,eq_self]
    refine sign27 o1 o2 fun s2 h2=>?_
    simp -dsimp -implicitDefEqProofs (disch:=first | (simp -dsimp only [↓STP,STQ,seval]; done) | omega | (simp only [ByteArray.size_append,bsz,List.size_toArray,List.length_cons,List.length_nil]; omega)) only [↓STP,STQ,seval,addS,Exp.v_clen,Exp.v_tk,Exp.v_ag,Exp.v_out,eq_self]
    refine paren27 (one b (by simp) (by omega)) (by omega) fun s3 h3=>?_
    simp -dsimp -implicitDefEqProofs (disch:=first | (simp -dsimp only [↓STP,STQ,seval]; done) | omega | (simp only [ByteArray.size_append,bsz,List.size_toArray,List.length_cons,List.length_nil]; omega)) only [↓STP,STQ,seval,addS]
    exact hK _ (by simp only [ByteArray.size_append,bsz,List.size_toArray,List.length_cons,List.length_nil]; omega)
end
end YtemlhjlceeiflaaDoor
end Go.Ab
namespace Go.Ab
def at0 (l:List Nat) (i:Nat):Nat:=l.getD i 0
def llenOf (k:Int) (s:ByteArray) (es:List Nat) (ta tb nb ind:Nat):Nat:=
 if k=1 then ind + s.size + 3 + at0 es 0 + 2
 else if k=2 then ind + s.size + 1 + at0 es 0 + 4 + at0 es 1 + 2
 else if k=5 then ind + 4 + at0 es 0 + 2
 else if k=3 then ind + 4 + at0 es 0 + 4 + ta + (if nb=0 then 0 else ind + 9 + tb) + ind + 2
 else ind + 4 + s.size + 3 + at0 es 0 + 4 + at0 es 1 + 3 + ta + ind + 2
mutual
def llen:Stm→Nat→Nat
 | .mk k s e a b,ind=>llenOf k s (e.map tlen) (llens a (ind + 2)) (llens b (ind + 2)) b.length ind
def llens:List Stm→Nat→Nat
 | [],_=>0
 | x :: xs,ind=>llen x ind + llens xs ind
end
theorem llens_append:∀ (a b:List Stm) (ind:Nat),llens (a ++ b) ind=llens a ind + llens b ind
 | [],b,ind=>by rw [List.nil_append,llens,Nat.zero_add]
 | x :: a,b,ind=>by rw [List.cons_append,llens,llens,llens_append a b,Nat.add_assoc]
theorem llens_take {l:List Stm} {i ind:Nat} (hi:i < l.length):llens (l.take (i + 1)) ind=llens (l.take i) ind + llen l[i] ind:=by
 rw [List.take_add_one,List.getElem?_eq_getElem hi,llens_append]
 simp [llens]
theorem llens_le {l:List Stm} {i ind:Nat} (hi:i < l.length):llens (l.take i) ind + llen l[i] ind ≤ llens l ind:=by
 have:llens l ind=llens (l.take (i + 1)) ind + llens (l.drop (i + 1)) ind:=by rw [← llens_append,List.take_append_drop]
 rw [this,llens_take hi]; omega
theorem ind2 {b:ByteArray}:(b ++ (⟨#[32,32]⟩:ByteArray)).size=b.size + 2:=by
 rw [ByteArray.size_append]; rfl
namespace YtemlhjlceeiflaaDoor
section
variable {h:H} {K:Out→H→Prop}
def LinesOk (l:List Stm):Prop:=∀ (lv:Nat) (ind:ByteArray) (h:H) (K:Out→H→Prop),VSs l lv→(∀ x ∈ l,SOk x)→l.length ≤ maxLen→ind.size ≤ 1000000000→llens l ind.size ≤ 1000000000→(∀ s:ByteArray,s.size=llens l ind.size→K (.ret (.str s)) h)→R 51 [.vec (l.map Stm.v) .any,.str ind] h K
theorem lines27_of (l:List Stm) (ih:∀ x ∈ l,LinesOk x.thn∧LinesOk x.els):LinesOk l:=by
 intro lv ind h K hv ok hl hind hll hK
 have hm:=maxLen_eq
 refine run51 (Nat.le_of_ble_eq_true rfl) ?_
 simp -dsimp -implicitDefEqProofs only [↓STP,STQ,seval,ir51]
 refine codeT_loop (fun k st=>∃ (i:Nat) (s:ByteArray),k=l.length - i∧i ≤ l.length∧s.size=llens (l.take i) ind.size∧st=⟨upd (upd (upd (upd ρ0 0 (.vec (l.map Stm.v) .any)) 1 (.str ind)) 5 (.str s)) 6 (I i),m0,0,[],h⟩) (i:=l.length) ⟨0,⟨#[]⟩,rfl,by omega,rfl,by simp -dsimp -implicitDefEqProofs only [↓STP,STQ,seval] <;> rfl⟩ ?_ mono
 rintro k st ⟨i,out,rfl,hi,hout,rfl⟩
 by_cases hlt:i < l.length
 rotate_left
 ·have:i=l.length:=by omega
  subst this
  rw [List.take_length] at hout
  simp -dsimp -implicitDefEqProofs only [↓STP,STQ,seval,List.length_map,Int.lt_irrefl]
  exact hK out hout
 have hget:=get_map (f:=Stm.v) hlt
 have hx:=VSs_all.1 hv _ (List.getElem_mem hlt)
 have okx:=ok _ (List.getElem_mem hlt)
 have hle:=llens_le (ind:=ind.size) hlt
 have htk:=llens_take (ind:=ind.size) hlt
 have ihx:=ih _ (List.getElem_mem hlt)
 have w1:=wiM (show i < 9223372036854775807 by omega)
 generalize l[i]=x at *
 obtain ⟨k,s,e,a,b⟩:=x
 obtain ⟨v1,v2,v3,v4,v5,v6,v7,v8,v9,v10,v11⟩:=VS_mk.1 hx
 obtain ⟨_,hs,_,hla,hlb,oke,oka,okb⟩:=SOk_mk okx
 have hll2:llen (.mk k s e a b) ind.size=llenOf k s (e.map tlen) (llens a (ind.size + 2)) (llens b (ind.size + 2)) b.length ind.size:=by rw [llen]
 rw [hll2] at hle htk
 have text:∀ x ∈ e,tlen x ≤ 1000000000→TextOk x:=fun x hx hl=>text27 x (lv + 1) (v9 x hx) (oke x hx) hl
 have hA:LinesOk a:=ihx.1
 have hB:LinesOk b:=ihx.2
 have indS:∀ {q:ByteArray},q.size=ind.size + 2→q.size ≤ 1000000002:=fun h=>by omega
 have fin:∀ (t:ByteArray),t.size=llens (l.take (i + 1)) ind.size→(∃ j,j < l.length - i∧∃ (i':Nat) (s:ByteArray),j=l.length - i'∧i' ≤ l.length∧s.size=llens (l.take i') ind.size∧(⟨upd (upd (upd (upd ρ0 0 (.vec (l.map Stm.v) .any)) 1 (.str ind)) 5 (.str t)) 6 (I ((i + 1:Nat):Int)),m0,0,[],h⟩:S)=⟨upd (upd (upd (upd ρ0 0 (.vec (l.map Stm.v) .any)) 1 (.str ind)) 5 (.str s)) 6 (I i'),m0,0,[],h⟩):=
  fun t ht=>⟨l.length - (i + 1),by omega,i + 1,t,rfl,by omega,ht,rfl⟩
 have kk:k=1∨k=2∨k=3∨k=4∨k=5:=by omega
 rcases kk with rfl | rfl | rfl | rfl | rfl
 ·obtain ⟨e0,rfl⟩:=len1 (show e.length=1 by simpa using v4)
  have ht:llenOf 1 s ([e0].map tlen) (llens a (ind.size + 2)) (llens b (ind.size + 2)) b.length ind.size=ind.size + s.size + 3 + tlen e0 + 2:=by simp [llenOf,at0]
  rw [ht] at hle htk
  have hsz:s.size ≤ 20:=(v5 (by decide)).2.1
  simp -dsimp -implicitDefEqProofs (disch:=first | (simp -dsimp only [↓STP,STQ,seval]; done) | omega | (simp only [ByteArray.size_append,bsz,List.size_toArray,List.length_cons,List.length_nil]; omega)) only [↓STP,STQ,seval,addS,List.length_map,Int.ofNat_lt,hlt,hget,Stm.v_mk,storeV,Exp.v_clen,Exp.v_tk,Exp.v_ag,Exp.v_out,eq_self]
  refine text e0 (by simp) (by omega) _ _ fun s1 h1=>?_
  simp -dsimp -implicitDefEqProofs (disch:=first | (simp -dsimp only [↓STP,STQ,seval]; done) | omega | (simp only [ByteArray.size_append,bsz,List.size_toArray,List.length_cons,List.length_nil]; omega)) only [↓STP,STQ,seval,addS,eq_self,w1]
  refine fin _ ?_
  simp only [ByteArray.size_append,bsz,List.size_toArray,List.length_cons,List.length_nil]; omega
 ·obtain ⟨e0,e1,rfl⟩:=len2 (show e.length=2 by simpa using v4)
  have ht:llenOf 2 s ([e0,e1].map tlen) (llens a (ind.size + 2)) (llens b (ind.size + 2)) b.length ind.size=ind.size + s.size + 1 + tlen e0 + 4 + tlen e1 + 2:=by simp [llenOf,at0]
  rw [ht] at hle htk
  have hsz:s.size ≤ 20:=(v5 (by decide)).2.1
  simp -dsimp -implicitDefEqProofs (disch:=first | (simp -dsimp only [↓STP,STQ,seval]; done) | omega | (simp only [ByteArray.size_append,bsz,List.size_toArray,List.length_cons,List.length_nil]; omega)) only [↓STP,STQ,seval,addS,List.length_map,Int.ofNat_lt,hlt,hget,Stm.v_mk,storeV,Exp.v_clen,Exp.v_tk,Exp.v_ag,Exp.v_out,eq_self]
  refine text e0 (by simp) (by omega) _ _ fun s1 h1=>?_
  simp -dsimp -implicitDefEqProofs (disch:=first | (simp -dsimp only [↓STP,STQ,seval]; done) | omega | (simp only [ByteArray.size_append,bsz,List.size_toArray,List.length_cons,List.length_nil]; omega)) only [↓STP,STQ,seval,addS,Exp.v_clen,Exp.v_tk,Exp.v_ag,Exp.v_out,eq_self]
  refine text e1 (by simp) (by omega) _ _ fun s2 h2=>?_
  simp -dsimp -implicitDefEqProofs (disch:=first | (simp -dsimp only [↓STP,STQ,seval]; done) | omega | (simp only [ByteArray.size_append,bsz,List.size_toArray,List.length_cons,List.length_nil]; omega)) only [↓STP,STQ,seval,addS,eq_self,w1]
  refine fin _ ?_
  simp only [ByteArray.size_append,bsz,List.size_toArray,List.length_cons,List.length_nil]; omega
 ·obtain ⟨e0,rfl⟩:=len1 (show e.length=1 by simpa using v4)
  have ht:llenOf 3 s ([e0].map tlen) (llens a (ind.size + 2)) (llens b (ind.size + 2)) b.length ind.size=ind.size + 4 + tlen e0 + 4 + llens a (ind.size + 2) + (if b.length=0 then 0 else ind.size + 9 + llens b (ind.size + 2)) + ind.size + 2:=by simp [llenOf,at0]
  rw [ht] at hle htk
  by_cases hb:(0:Int) < (b.length:Int)
  ·rw [if_neg (show ¬ b.length=0 by omega)] at hle htk
   simp -dsimp -implicitDefEqProofs (disch:=first | (simp -dsimp only [↓STP,STQ,seval]; done) | omega | (simp only [ByteArray.size_append,bsz,List.size_toArray,List.length_cons,List.length_nil]; omega)) only [↓STP,STQ,seval,addS,List.length_map,Int.ofNat_lt,hlt,hget,Stm.v_mk,storeV,Exp.v_clen,Exp.v_tk,Exp.v_ag,Exp.v_out,eq_self]
   refine text e0 (by simp) (by omega) _ _ fun s1 h1=>?_
   simp -dsimp -implicitDefEqProofs (disch:=first | (simp -dsimp only [↓STP,STQ,seval]; done) | omega | (simp only [ByteArray.size_append,bsz,List.size_toArray,List.length_cons,List.length_nil]; omega)) only [↓STP,STQ,seval,addS,eq_self]
   refine hA (lv + 1) _ _ _ v10 oka hla (by rw [ind2]; omega) (by rw [ind2]; omega) fun s2 h2=>?_
   have h2':s2.size=llens a (ind.size + 2):=by rw [h2,ind2]
   simp -dsimp -implicitDefEqProofs (disch:=first | (simp -dsimp only [↓STP,STQ,seval]; done) | omega | (simp only [ByteArray.size_append,bsz,List.size_toArray,List.length_cons,List.length_nil]; omega)) only [↓STP,STQ,seval,addS,List.length_map,eq_true hb]
   refine hB (lv + 1) _ _ _ v11 okb hlb (by rw [ind2]; omega) (by rw [ind2]; omega) fun s3 h3=>?_
   have h3':s3.size=llens b (ind.size + 2):=by rw [h3,ind2]
   simp -dsimp -implicitDefEqProofs (disch:=first | (simp -dsimp only [↓STP,STQ,seval]; done) | omega | (simp only [ByteArray.size_append,bsz,List.size_toArray,List.length_cons,List.length_nil]; omega)) only [↓STP,STQ,seval,addS,eq_self,w1]
   refine fin _ ?_
   simp only [ByteArray.size_append,bsz,List.size_toArray,List.length_cons,List.length_nil]; omega
  ·rw [if_pos (show b.length=0 by omega)] at hle htk
   simp -dsimp -implicitDefEqProofs (disch:=first | (simp -dsimp only [↓STP,STQ,seval]; done) | omega | (simp only [ByteArray.size_append,bsz,List.size_toArray,List.length_cons,List.length_nil]; omega)) only [↓STP,STQ,seval,addS,List.length_map,Int.ofNat_lt,hlt,hget,Stm.v_mk,storeV,Exp.v_clen,Exp.v_tk,Exp.v_ag,Exp.v_out,eq_self]
   refine text e0 (by simp) (by omega) _ _ fun s1 h1=>?_
   simp -dsimp -implicitDefEqProofs (disch:=first | (simp -dsimp only [↓STP,STQ,seval]; done) | omega | (simp only [ByteArray.size_append,bsz,List.size_toArray,List.length_cons,List.length_nil]; omega)) only [↓STP,STQ,seval,addS,eq_self]
   refine hA (lv + 1) _ _ _ v10 oka hla (by rw [ind2]; omega) (by rw [ind2]; omega) fun s2 h2=>?_
   have h2':s2.size=llens a (ind.size + 2):=by rw [h2,ind2]
   simp -dsimp -implicitDefEqProofs (disch:=first | (simp -dsimp only [↓STP,STQ,seval]; done) | omega | (simp only [ByteArray.size_append,bsz,List.size_toArray,List.length_cons,List.length_nil]; omega)) only [↓STP,STQ,seval,addS,List.length_map,eq_false hb,w1]
   refine fin _ ?_
   simp only [ByteArray.size_append,bsz,List.size_toArray,List.length_cons,List.length_nil]; omega
 ·obtain ⟨e0,e1,rfl⟩:=len2 (show e.length=2 by simpa using v4)
  have ht:llenOf 4 s ([e0,e1].map tlen) (llens a (ind.size + 2)) (llens b (ind.size + 2)) b.length ind.size=ind.size + 4 + s.size + 3 + tlen e0 + 4 + tlen e1 + 3 + llens a (ind.size + 2) + ind.size + 2:=by simp [llenOf,at0]
  rw [ht] at hle htk
  have hsz:s.size ≤ 20:=(v5 (by decide)).2.1
  simp -dsimp -implicitDefEqProofs (disch:=first | (simp -dsimp only [↓STP,STQ,seval]; done) | omega | (simp only [ByteArray.size_append,bsz,List.size_toArray,List.length_cons,List.length_nil]; omega)) only [↓STP,STQ,seval,addS,List.length_map,Int.ofNat_lt,hlt,hget,Stm.v_mk,storeV,Exp.v_clen,Exp.v_tk,Exp.v_ag,Exp.v_out,eq_self]
  refine text e0 (by simp) (by omega) _ _ fun s1 h1=>?_
  simp -dsimp -implicitDefEqProofs (disch:=first | (simp -dsimp only [↓STP,STQ,seval]; done) | omega | (simp only [ByteArray.size_append,bsz,List.size_toArray,List.length_cons,List.length_nil]; omega)) only [↓STP,STQ,seval,addS,Exp.v_clen,Exp.v_tk,Exp.v_ag,Exp.v_out,eq_self]
  refine text e1 (by simp) (by omega) _ _ fun s2 h2=>?_
  simp -dsimp -implicitDefEqProofs (disch:=first | (simp -dsimp only [↓STP,STQ,seval]; done) | omega | (simp only [ByteArray.size_append,bsz,List.size_toArray,List.length_cons,List.length_nil]; omega)) only [↓STP,STQ,seval,addS,eq_self]
  refine hA (lv + 1) _ _ _ v10 oka hla (by rw [ind2]; omega) (by rw [ind2]; omega) fun s3 h3=>?_
  have h3':s3.size=llens a (ind.size + 2):=by rw [h3,ind2]
  simp -dsimp -implicitDefEqProofs (disch:=first | (simp -dsimp only [↓STP,STQ,seval]; done) | omega | (simp only [ByteArray.size_append,bsz,List.size_toArray,List.length_cons,List.length_nil]; omega)) only [↓STP,STQ,seval,addS,eq_self,w1]
  refine fin _ ?_
  simp only [ByteArray.size_append,bsz,List.size_toArray,List.length_cons,List.length_nil]; omega
 ·obtain ⟨e0,rfl⟩:=len1 (show e.length=1 by simpa using v4)
  have ht:llenOf 5 s ([e0].map tlen) (llens a (ind.size + 2)) (llens b (ind.size + 2)) b.length ind.size=ind.size + 4 + tlen e0 + 2:=by simp [llenOf,at0]
  rw [ht] at hle htk
  skip
  simp -dsimp -implicitDefEqProofs (disch:=first | (simp -dsimp only [↓STP,STQ,seval]; done) | omega | (simp only [ByteArray.size_append,bsz,List.size_toArray,List.length_cons,List.length_nil]; omega)) only [↓STP,STQ,seval,addS,List.length_map,Int.ofNat_lt,hlt,hget,Stm.v_mk,storeV,Exp.v_clen,Exp.v_tk,Exp.v_ag,Exp.v_out,eq_self]
  refine text e0 (by simp) (by omega) _ _ fun s1 h1=>?_
  simp -dsimp -implicitDefEqProofs (disch:=first | (simp -dsimp only [↓STP,STQ,seval]; done) | omega | (simp only [ByteArray.size_append,bsz,List.size_toArray,List.length_cons,List.length_nil]; omega)) only [↓STP,STQ,seval,addS,eq_self,w1]
  refine fin _ ?_
  simp only [ByteArray.size_append,bsz,List.size_toArray,List.length_cons,List.length_nil]; omega
theorem linesOk (x:Stm):LinesOk x.thn∧LinesOk x.els:=by
 induction x using Stm.ind with
 | h k s e a b iha ihb=>exact ⟨lines27_of a iha,lines27_of b ihb⟩
theorem lines27 (l:List Stm):LinesOk l:=lines27_of l fun x _=>linesOk x
end
end YtemlhjlceeiflaaDoor
end Go.Ab
namespace Go.Ab
structure VIn (x:InD):Prop where
 name:isName x.name
 f1:1 ≤ x.frm
 f2:x.frm ≤ 13
 w1:1 ≤ x.width
 w2:x.width ≤ 16
 s1:0 ≤ x.size
 s2:x.size ≤ 64
structure VAr (x:ArD):Prop where
 name:isName x.name
 s1:1 ≤ x.size
 s2:x.size ≤ 64
def ilen (x:InD):Nat:=3 + x.name.size + (if x.size=0 then 0 else 2 + dlen x.size.toNat) + 6 + dlen x.frm.toNat + 2 + dlen x.width.toNat + 2
def alen (x:ArD):Nat:=6 + x.name.size + 1 + dlen x.size.toNat + 3
def sumL {α:Type} (f:α→Nat):List α→Nat
 | []=>0
 | x :: xs=>f x + sumL f xs
theorem sumL_append {α:Type} (f:α→Nat):∀ a b:List α,sumL f (a ++ b)=sumL f a + sumL f b
 | [],b=>by rw [List.nil_append,sumL,Nat.zero_add]
 | x :: a,b=>by rw [List.cons_append,sumL,sumL,sumL_append f a,Nat.add_assoc]
theorem sumL_take {α:Type} {f:α→Nat} {l:List α} {i:Nat} (hi:i < l.length):sumL f (l.take (i + 1))=sumL f (l.take i) + f l[i]:=by
 rw [List.take_add_one,List.getElem?_eq_getElem hi,sumL_append]; simp [sumL]
theorem sumL_le {α:Type} {f:α→Nat} {l:List α} {i:Nat} (hi:i < l.length):sumL f (l.take i) + f l[i] ≤ sumL f l:=by
 have:sumL f l=sumL f (l.take (i + 1)) + sumL f (l.drop (i + 1)):=by rw [← sumL_append,List.take_append_drop]
 rw [this,sumL_take hi]; omega
def flen (p:Prg):Nat:=sumL ilen p.ins + sumL alen p.arrays + llens p.body 0
structure VP (p:Prg):Prop where
 ins:∀ x ∈ p.ins,VIn x
 arrays:∀ x ∈ p.arrays,VAr x
 body:VSs p.body 1
 len:flen p ≤ 20000
namespace YtemlhjlceeiflaaDoor
section
variable {h:H} {K:Out→H→Prop}
theorem num27 {n:Nat} (hn:n < 9223372036854775808) (hK:∀ s:ByteArray,s.size=dlen n→K (.ret (.str s)) h):R 50 [I n] h K:=by
 refine run50 (Nat.le_of_ble_eq_true rfl) ?_
 have w:IntKind.u64.wrap (n:Int)=(n:Int):=by rw [wrap_u64_self] <;> omega
 simp -dsimp -implicitDefEqProofs only [↓STP,STQ,seval,ir50,w]
 refine dec27 (by omega) fun s hs=>?_
 simp -dsimp -implicitDefEqProofs only [↓STP,STQ,seval]
 exact hK s hs
def prgCells (p:Prg):List V:=[.vec (p.ins.map InD.v) .any,.vec (p.arrays.map ArD.v) .any,.vec (p.body.map Stm.v) .any]
theorem format27 {p:Prg} (ok:POk p) (hi:∀ x ∈ p.ins,VIn x) (ha:∀ x ∈ p.arrays,VAr x) (hv:VSs p.body 1) (hl:flen p ≤ 1000000000) (hK:∀ s:ByteArray,s.size=flen p→K (.ret (.str s)) h):R 29 [p.v] h K:=by
 have hm:=maxLen_eq
 have hli:=ok.li
 have hla:=ok.la
 refine run29 (Nat.le_of_ble_eq_true rfl) ?_
 unfold flen at hl hK
 simp -dsimp -implicitDefEqProofs only [↓STP,STQ,seval,Prg.v,Prg.cells,ir29]
 refine codeT_loop (fun k st=>∃ (i:Nat) (s:ByteArray),k=p.ins.length - i∧i ≤ p.ins.length∧s.size=sumL ilen (p.ins.take i)∧st=⟨upd (upd (upd ρ0 1 (.lptr 0 3 0)) 3 (.str s)) 4 (I i),upd m0 0 (some (prgCells p)),1,[],h⟩) (i:=p.ins.length) ⟨0,⟨#[]⟩,rfl,by omega,rfl,by simp -dsimp -implicitDefEqProofs only [↓STP,STQ,seval,prgCells] <;> rfl⟩ ?_ mono
 rintro k st ⟨i,out,rfl,hi',hout,rfl⟩
 by_cases hlt:i < p.ins.length
 ·have hget:=get_map (f:=InD.v) hlt
  have hx:=hi _ (List.getElem_mem hlt)
  have hle:=sumL_le (f:=ilen) hlt
  have htk:=sumL_take (f:=ilen) hlt
  have w1:=wiM (show i < 9223372036854775807 by omega)
  generalize p.ins[i]=x at *
  obtain ⟨s,f,w,z⟩:=x
  obtain ⟨x1,x2,x3,x4,x5,x6,x7⟩:=hx
  have hsz:s.size ≤ 20:=x1.2.1
  simp only at x2 x3 x4 x5 x6 x7
  obtain ⟨f,rfl⟩:∃ n:Nat,f=n:=⟨f.toNat,by omega⟩
  obtain ⟨w,rfl⟩:∃ n:Nat,w=n:=⟨w.toNat,by omega⟩
  obtain ⟨z,rfl⟩:∃ n:Nat,z=n:=⟨z.toNat,by omega⟩
  have d1:=dlen_le20 (show f < 18446744073709551616 by omega)
  have d2:=dlen_le20 (show w < 18446744073709551616 by omega)
  have d3:=dlen_le20 (show z < 18446744073709551616 by omega)
  by_cases cz:(z:Int)=0
  ·have ht:ilen ⟨s,f,w,z⟩=3 + s.size + 0 + 6 + dlen f + 2 + dlen w + 2:=by simp [ilen,cz]
   rw [ht] at hle htk
   simp -dsimp -implicitDefEqProofs (disch:=first | (simp -dsimp only [↓STP,STQ,seval]; done) | omega | (simp only [ByteArray.size_append,bsz,List.size_toArray,List.length_cons,List.length_nil]; omega)) only [↓STP,STQ,seval,addS,prgCells,List.length_map,Int.ofNat_lt,hlt,hget,InD.v,InD.cells,storeV,eq_self,eq_true cz]
   refine num27 (by omega) fun s1 h1=>?_
   simp -dsimp -implicitDefEqProofs (disch:=first | (simp -dsimp only [↓STP,STQ,seval]; done) | omega | (simp only [ByteArray.size_append,bsz,List.size_toArray,List.length_cons,List.length_nil]; omega)) only [↓STP,STQ,seval,addS,eq_self,storeV]
   refine num27 (by omega) fun s2 h2=>?_
   simp -dsimp -implicitDefEqProofs (disch:=first | (simp -dsimp only [↓STP,STQ,seval]; done) | omega | (simp only [ByteArray.size_append,bsz,List.size_toArray,List.length_cons,List.length_nil]; omega)) only [↓STP,STQ,seval,addS,eq_self,w1]
   refine ⟨p.ins.length - (i + 1),by omega,i + 1,_,rfl,by omega,?_,rfl⟩
   simp only [ByteArray.size_append,bsz,List.size_toArray,List.length_cons,List.length_nil]; omega
  ·have ht:ilen ⟨s,f,w,z⟩=3 + s.size + (2 + dlen z) + 6 + dlen f + 2 + dlen w + 2:=by
    have:¬ z=0:=by omega
    simp [ilen,this]
   rw [ht] at hle htk
   simp -dsimp -implicitDefEqProofs (disch:=first | (simp -dsimp only [↓STP,STQ,seval]; done) | omega | (simp only [ByteArray.size_append,bsz,List.size_toArray,List.length_cons,List.length_nil]; omega)) only [↓STP,STQ,seval,addS,prgCells,List.length_map,Int.ofNat_lt,hlt,hget,InD.v,InD.cells,storeV,eq_self,eq_false cz]
   refine num27 (by omega) fun s0 h0=>?_
   simp -dsimp -implicitDefEqProofs (disch:=first | (simp -dsimp only [↓STP,STQ,seval]; done) | omega | (simp only [ByteArray.size_append,bsz,List.size_toArray,List.length_cons,List.length_nil]; omega)) only [↓STP,STQ,seval,addS,eq_self]
   refine num27 (by omega) fun s1 h1=>?_
   simp -dsimp -implicitDefEqProofs (disch:=first | (simp -dsimp only [↓STP,STQ,seval]; done) | omega | (simp only [ByteArray.size_append,bsz,List.size_toArray,List.length_cons,List.length_nil]; omega)) only [↓STP,STQ,seval,addS,eq_self]
   refine num27 (by omega) fun s2 h2=>?_
   simp -dsimp -implicitDefEqProofs (disch:=first | (simp -dsimp only [↓STP,STQ,seval]; done) | omega | (simp only [ByteArray.size_append,bsz,List.size_toArray,List.length_cons,List.length_nil]; omega)) only [↓STP,STQ,seval,addS,eq_self,w1]
   refine ⟨p.ins.length - (i + 1),by omega,i + 1,_,rfl,by omega,?_,rfl⟩
   simp only [ByteArray.size_append,bsz,List.size_toArray,List.length_cons,List.length_nil]; omega
 have hie:i=p.ins.length:=by omega
 subst hie
 rw [List.take_length] at hout
 simp -dsimp -implicitDefEqProofs only [↓STP,STQ,seval,prgCells,List.length_map,Int.lt_irrefl]
 refine codeT_loop (fun k st=>∃ (i:Nat) (s:ByteArray),k=p.arrays.length - i∧i ≤ p.arrays.length∧s.size=sumL ilen p.ins + sumL alen (p.arrays.take i)∧st=⟨upd (upd (upd ρ0 1 (.lptr 0 3 0)) 3 (.str s)) 7 (I i),upd m0 0 (some (prgCells p)),1,[],h⟩) (i:=p.arrays.length) ⟨0,out,rfl,by omega,by rw [hout,List.take_zero]; rfl,by simp -dsimp -implicitDefEqProofs only [↓STP,STQ,seval,prgCells] <;> rfl⟩ ?_ mono
 rintro k st ⟨i,out,rfl,hi'',hout,rfl⟩
 by_cases hlt:i < p.arrays.length
 ·have hget:=get_map (f:=ArD.v) hlt
  have hx:=ha _ (List.getElem_mem hlt)
  have hle:=sumL_le (f:=alen) hlt
  have htk:=sumL_take (f:=alen) hlt
  have w1:=wiM (show i < 9223372036854775807 by omega)
  generalize p.arrays[i]=x at *
  obtain ⟨s,z⟩:=x
  obtain ⟨x1,x6,x7⟩:=hx
  have hsz:s.size ≤ 20:=x1.2.1
  simp only at x6 x7
  obtain ⟨z,rfl⟩:∃ n:Nat,z=n:=⟨z.toNat,by omega⟩
  have d3:=dlen_le20 (show z < 18446744073709551616 by omega)
  have ht:alen ⟨s,z⟩=6 + s.size + 1 + dlen z + 3:=by simp [alen]
  rw [ht] at hle htk
  simp -dsimp -implicitDefEqProofs (disch:=first | (simp -dsimp only [↓STP,STQ,seval]; done) | omega | (simp only [ByteArray.size_append,bsz,List.size_toArray,List.length_cons,List.length_nil]; omega)) only [↓STP,STQ,seval,addS,prgCells,List.length_map,Int.ofNat_lt,hlt,hget,ArD.v,ArD.cells,storeV,eq_self]
  refine num27 (by omega) fun s1 h1=>?_
  simp -dsimp -implicitDefEqProofs (disch:=first | (simp -dsimp only [↓STP,STQ,seval]; done) | omega | (simp only [ByteArray.size_append,bsz,List.size_toArray,List.length_cons,List.length_nil]; omega)) only [↓STP,STQ,seval,addS,eq_self,w1]
  refine ⟨p.arrays.length - (i + 1),by omega,i + 1,_,rfl,by omega,?_,rfl⟩
  simp only [ByteArray.size_append,bsz,List.size_toArray,List.length_cons,List.length_nil]; omega
 have hie:i=p.arrays.length:=by omega
 subst hie
 rw [List.take_length] at hout
 simp -dsimp -implicitDefEqProofs only [↓STP,STQ,seval,prgCells,List.length_map,Int.lt_irrefl]
 refine lines27 p.body 1 _ _ _ hv ok.body ok.lb (by decide) (by show llens p.body 0 ≤ _; omega) fun s1 h1=>?_
 have h1':s1.size=llens p.body 0:=h1
 simp -dsimp -implicitDefEqProofs (disch:=first | (simp -dsimp only [↓STP,STQ,seval]; done) | omega | (simp only [ByteArray.size_append,bsz,List.size_toArray,List.length_cons,List.length_nil]; omega)) only [↓STP,STQ,seval,addS]
 refine hK _ ?_
 rw [ByteArray.size_append]; omega
theorem valid27 {p:Prg} (ok:POk p) (hfl:(∀ x ∈ p.ins,VIn x)→(∀ x ∈ p.arrays,VAr x)→VSs p.body 1→flen p ≤ 1000000000) (hK:∀ b:Bool,(b=true ↔ VP p)→K (.ret (.bool b)) h):R 17 [p.v] h K:=by
 have hm:=maxLen_eq
 have hli:=ok.li
 have hla:=ok.la
 have no:¬ VP p→K (.ret (.bool false)) h:=fun hn=>hK false (iff_of_false (by simp) hn)
 refine run17 (Nat.le_of_ble_eq_true rfl) ?_
 simp -dsimp -implicitDefEqProofs only [↓STP,STQ,seval,Prg.v,Prg.cells,ir17]
 refine codeT_for (N:=p.ins.length) (fun i=>⟨upd (upd ρ0 1 (.lptr 0 3 0)) 3 (I i),upd m0 0 (some (prgCells p)),1,[],h⟩) (fun i=>∀ x ∈ p.ins.take i,VIn x) (by simp -dsimp -implicitDefEqProofs only [↓STP,STQ,seval,prgCells] <;> rfl) (by simp) (fun i hlt hp=>?_) (fun hp=>?_) mono
 ·have hget:=get_map (f:=InD.v) hlt
  have hx:=ok.ins _ (List.getElem_mem hlt)
  have w1:=wiM (show i < 9223372036854775807 by omega)
  have no2:¬ VIn p.ins[i]→K (.ret (.bool false)) h:=fun hn=>no fun hv=>hn (hv.ins _ (List.getElem_mem hlt))
  have yes:VIn p.ins[i]→∀ x ∈ p.ins.take (i + 1),VIn x:=fun hn x hx=>by
   rw [List.take_add_one,List.getElem?_eq_getElem hlt] at hx
   rcases List.mem_append.1 hx with hx | hx
   ·exact hp x hx
   ·simp at hx; subst hx; exact hn
  generalize p.ins[i]=x at *
  obtain ⟨s,f,w,z⟩:=x
  simp -dsimp -implicitDefEqProofs only [↓STP,STQ,seval,prgCells,List.length_map,Int.ofNat_lt,hlt,hget,InD.v,InD.cells,storeV]
  refine isName_spec hx.n fun b hb=>?_
  cases b with
  | false =>
   simp -dsimp -implicitDefEqProofs only [↓STP,STQ,seval]
   exact no2 fun hv=>by have:=hb.2 hv.name; cases this
  | true =>
   by_cases c1:f < 1
   ·simp -dsimp -implicitDefEqProofs only [↓STP,STQ,seval,c1]
    exact no2 fun hv=>by have:=hv.f1; simp only at this; omega
   by_cases c2:13 < f
   ·simp -dsimp -implicitDefEqProofs only [↓STP,STQ,seval,c1,c2]
    exact no2 fun hv=>by have:=hv.f2; simp only at this; omega
   by_cases c3:w < 1
   ·simp -dsimp -implicitDefEqProofs only [↓STP,STQ,seval,c1,c2,c3]
    exact no2 fun hv=>by have:=hv.w1; simp only at this; omega
   by_cases c4:16 < w
   ·simp -dsimp -implicitDefEqProofs only [↓STP,STQ,seval,c1,c2,c3,c4]
    exact no2 fun hv=>by have:=hv.w2; simp only at this; omega
   by_cases c5:z < 0
   ·simp -dsimp -implicitDefEqProofs only [↓STP,STQ,seval,c1,c2,c3,c4,c5]
    exact no2 fun hv=>by have:=hv.s1; simp only at this; omega
   by_cases c6:64 < z
   ·simp -dsimp -implicitDefEqProofs only [↓STP,STQ,seval,c1,c2,c3,c4,c5,c6]
    exact no2 fun hv=>by have:=hv.s2; simp only at this; omega
   simp -dsimp -implicitDefEqProofs only [↓STP,STQ,seval,c1,c2,c3,c4,c5,c6,prgCells,w1]
   exact yes ⟨hb.1 rfl,by simp only; omega,by simp only; omega,by simp only; omega,by simp only; omega,by simp only; omega,by simp only; omega⟩
 rw [List.take_length] at hp
 simp -dsimp -implicitDefEqProofs only [↓STP,STQ,seval,prgCells,List.length_map,Int.lt_irrefl]
 refine codeT_for (N:=p.arrays.length) (fun i=>⟨upd (upd ρ0 1 (.lptr 0 3 0)) 5 (I i),upd m0 0 (some (prgCells p)),1,[],h⟩) (fun i=>∀ x ∈ p.arrays.take i,VAr x) (by simp -dsimp -implicitDefEqProofs only [↓STP,STQ,seval,prgCells] <;> rfl) (by simp) (fun i hlt hp2=>?_) (fun hp2=>?_) mono
 ·have hget:=get_map (f:=ArD.v) hlt
  have hx:=ok.arrays _ (List.getElem_mem hlt)
  have w1:=wiM (show i < 9223372036854775807 by omega)
  have no2:¬ VAr p.arrays[i]→K (.ret (.bool false)) h:=fun hn=>no fun hv=>hn (hv.arrays _ (List.getElem_mem hlt))
  have yes:VAr p.arrays[i]→∀ x ∈ p.arrays.take (i + 1),VAr x:=fun hn x hx=>by
   rw [List.take_add_one,List.getElem?_eq_getElem hlt] at hx
   rcases List.mem_append.1 hx with hx | hx
   ·exact hp2 x hx
   ·simp at hx; subst hx; exact hn
  generalize p.arrays[i]=x at *
  obtain ⟨s,z⟩:=x
  simp -dsimp -implicitDefEqProofs only [↓STP,STQ,seval,prgCells,List.length_map,Int.ofNat_lt,hlt,hget,ArD.v,ArD.cells,storeV]
  refine isName_spec hx.n fun b hb=>?_
  cases b with
  | false =>
   simp -dsimp -implicitDefEqProofs only [↓STP,STQ,seval]
   exact no2 fun hv=>by have:=hb.2 hv.name; cases this
  | true =>
   by_cases c5:z < 1
   ·simp -dsimp -implicitDefEqProofs only [↓STP,STQ,seval,c5]
    exact no2 fun hv=>by have:=hv.s1; simp only at this; omega
   by_cases c6:64 < z
   ·simp -dsimp -implicitDefEqProofs only [↓STP,STQ,seval,c5,c6]
    exact no2 fun hv=>by have:=hv.s2; simp only at this; omega
   simp -dsimp -implicitDefEqProofs only [↓STP,STQ,seval,c5,c6,prgCells,w1]
   exact yes ⟨hb.1 rfl,by simp only; omega,by simp only; omega⟩
 rw [List.take_length] at hp2
 simp -dsimp -implicitDefEqProofs only [↓STP,STQ,seval,prgCells,List.length_map,Int.lt_irrefl]
 refine stmts27 (lv:=1) ok.lb ok.body (by decide) fun b hb=>?_
 cases b with
 | false =>
  simp -dsimp -implicitDefEqProofs only [↓STP,STQ,seval]
  exact no fun hv=>by have:=hb.2 hv.body; cases this
 | true =>
  have hbody:=hb.1 rfl
  simp -dsimp -implicitDefEqProofs only [↓STP,STQ,seval]
  rw [show (V.agg [.vec (p.ins.map InD.v) .any,.vec (p.arrays.map ArD.v) .any,.vec (p.body.map Stm.v) .any])=p.v from rfl]
  refine format27 ok hp hp2 hbody (hfl hp hp2 hbody) fun s hs=>?_
  by_cases c:(s.size:Int) ≤ 20000
  ·simp -dsimp -implicitDefEqProofs only [↓STP,STQ,seval,eq_true c]
   exact hK true (iff_of_true rfl ⟨hp,hp2,hbody,by omega⟩)
  ·simp -dsimp -implicitDefEqProofs only [↓STP,STQ,seval,eq_false c]
   exact no fun hv=>by have:=hv.len; omega
end
end YtemlhjlceeiflaaDoor
end Go.Ab
namespace Go.Ab
open Go.RowKit Go.ChangeShapes
mutual
def V.bulk:V→Nat
 | .str s=>s.size + 1
 | .vec xs _=>V.bulks xs + 1
 | .agg xs=>V.bulks xs + 1
 | _=>1
def V.bulks:List V→Nat
 | []=>0
 | x :: xs=>x.bulk + V.bulks xs
end
theorem bulks_append:∀ a b:List V,V.bulks (a ++ b)=V.bulks a + V.bulks b
 | [],b=>by rw [List.nil_append,V.bulks,Nat.zero_add]
 | x :: a,b=>by rw [List.cons_append,V.bulks,V.bulks,bulks_append a b,Nat.add_assoc]
theorem bulks_one {v:V}:V.bulks [v]=v.bulk:=by rw [V.bulks,V.bulks,Nat.add_zero]
section
variable {H':Type} {enc:TypeId × Value→H'} {P:Program} {W:World} {ts:List TypeId}
structure BulkOK (B:DataW H'→Nat):Prop where
 str:∀ l,l.length + 1 ≤ B (.lit (.string l))
 lit:∀ l,1 ≤ B (.lit l)
 nil:1 ≤ B .nil
 slice:∀ e s,(e.map B).sum + 1 ≤ B (.slice e s)
 agg:∀ e,(e.map B).sum + 1 ≤ B (.agg e)
theorem bulks_le {α:Type} {g:α→Nat}:∀ {l:List V} {m:List α},l.length=m.length→(∀ (i:Nat) (a:V) (b:α),l[i]?=some a→m[i]?=some b→a.bulk ≤ g b)→V.bulks l ≤ (m.map g).sum
 | [],[],_,_=>Nat.le_refl _
 | [],_ :: _,h,_=>by simp at h
 | _ :: _,[],h,_=>by simp at h
 | x :: l,y :: m,h,hp=>by
  have h1:=hp 0 x y rfl rfl
  have h2:=bulks_le (l:=l) (m:=m) (by simpa using h) (fun i a b ha hb=>hp (i + 1) a b (by simpa using ha) (by simpa using hb))
  rw [V.bulks,List.map_cons,List.sum_cons]; omega
theorem bulks_flat {α:Type} {g:α→Nat}:∀ {l:List (List V)} {m:List α},l.length=m.length→(∀ (i:Nat) (a:List V) (b:α),l[i]?=some a→m[i]?=some b→V.bulks a ≤ g b)→V.bulks l.flatten ≤ (m.map g).sum
 | [],[],_,_=>Nat.le_refl _
 | [],_ :: _,h,_=>by simp at h
 | _ :: _,[],h,_=>by simp at h
 | x :: l,y :: m,h,hp=>by
  have h1:=hp 0 x y rfl rfl
  have h2:=bulks_flat (l:=l) (m:=m) (by simpa using h) (fun i a b ha hb=>hp (i + 1) a b (by simpa using ha) (by simpa using hb))
  rw [List.flatten_cons,bulks_append,List.map_cons,List.sum_cons]; omega
theorem trod_VB {B:DataW H'→Nat} (hB:BulkOK B) (hc:closedT P ts=true):∀ (fuel:Nat) (t:TypeId) (cs:List Value) (x:DataW H' × List MemPlace),ts.contains t=true→DataW.trod enc P W 0 (fun _=>true) true fuel t cs=some x →
  ∃ vs,CRs (k0 W) W vs cs∧Ty P t vs∧vs.length=P.cellsOf t∧V.bulks vs ≤ B x.1∧(aggT P t=some true→V.bulks vs + 1 ≤ B x.1):=by
 intro fuel
 induction fuel with
 | zero=>intro t cs x ht h; simp [DataW.trod] at h
 | succ fuel ih =>
  intro t cs x ht h
  have hk:=closed_at hc ht
  unfold DataW.trod at h
  simp only at h
  split at h
  ·rename_i hu
   rw [hu] at hk
   cases h
   exact ⟨_,crs_one (.bool _) rfl,.bool hu _,(beq_iff_eq.1 hk).symm,hB.lit _,fun h=>by unfold aggT at h; rw [hu] at h; cases h⟩
  ·rename_i k k' n hu
   rw [hu] at hk
   split at h
   ·rename_i hw
    obtain ⟨rfl,hw⟩:=hw
    cases h
    exact ⟨_,crs_one (.int _ _) rfl,.int hu _ hw,(beq_iff_eq.1 hk).symm,hB.lit _,fun h=>by unfold aggT at h; rw [hu] at h; cases h⟩
   ·simp at h
  ·rename_i hu; rw [hu] at hk; simp at hk
  ·rename_i s hu
   rw [hu] at hk
   split at h
   ·rename_i hs
    cases h
    exact ⟨_,crs_one (.str _) rfl,.str hu _ hs,(beq_iff_eq.1 hk).symm,by rw [bulks_one]; exact Nat.le_trans (by rw [V.bulk,Array.length_toList]; exact Nat.le_refl _) (hB.str _),fun h=>by unfold aggT at h; rw [hu] at h; cases h⟩
   ·simp at h
  ·rename_i hu; rw [hu] at hk; simp at hk
  ·rename_i hu; rw [hu] at hk; simp at hk
  ·rename_i e hu
   rw [hu] at hk
   simp only [Bool.and_eq_true,beq_iff_eq,decide_eq_true_eq] at hk
   obtain ⟨ag,ha,_⟩:=closed_agg hc hk.1.1
   cases h
   exact ⟨_,crs_one (.vecNil .any rfl) rfl,.slice hu ha [] (by simp) (by simp),hk.2.symm,hB.nil,fun h=>by unfold aggT at h; rw [hu] at h; cases h⟩
  ·rename_i e a len cap hu
   rw [hu] at hk
   simp only [Bool.and_eq_true,beq_iff_eq,decide_eq_true_eq] at hk
   obtain ⟨⟨he,hz⟩,h1⟩:=hk
   obtain ⟨ag,ha,hag⟩:=closed_agg hc he
   split at h
   ·rename_i hb
    obtain ⟨_,hlc,hcm⟩:=hb
    rw [Option.bind_eq_some_iff] at h
    obtain ⟨elems,hel,h⟩:=h
    rw [Option.map_eq_some_iff] at h
    obtain ⟨rest,_,rfl⟩:=h
    obtain ⟨g1,g2⟩:=mapM_range hel
    have hel':∀ i,i < len→∃ vs:List V,vs.length=P.cellsOf e∧Ty P e vs∧(∀ (j:Nat) (v:V),vs[j]?=some v→∃ y,W.cell? (a.add (i * P.cellsOf e + j))=some y∧VR (k0 W) W v y∧y.oneCell'=true)∧∀ y,elems[i]?=some y→(mkEl ag vs).bulk ≤ B y.1:=by
     intro i hi
     obtain ⟨y,hy,hyi⟩:=g2 i hi
     rw [Option.bind_eq_some_iff] at hy
     obtain ⟨row,hrow,hy⟩:=hy
     obtain ⟨vs,r1,r2,r3,r4,r5⟩:=ih _ _ _ he hy
     refine ⟨vs,r3,r2,fun j v hj=>?_,fun y' hy'=>?_⟩
     rotate_left
     ·rw [hyi] at hy'; cases hy'
      cases ag with
      | true=>exact r5 ha
      | false =>
       rw [hag rfl] at r3
       match vs,r3 with
       | [v],_=>rw [bulks_one] at r4; exact r4
     obtain ⟨z,q1,q2,q3⟩:=r1.2 j v hj
     unfold World.cells? at hrow
     split at hrow
     ·obtain ⟨l1,l2⟩:=mapM_range hrow
      have hj':j < P.cellsOf e:=by rw [← r3]; exact (List.getElem?_eq_some_iff.1 hj).1
      obtain ⟨z',m1,m2⟩:=l2 j hj'
      rw [addr_add_add] at m1
      rw [q1] at m2; cases m2
      exact ⟨z,m1,q2,q3⟩
     ·simp at hrow
    obtain ⟨css,c1,c2⟩:=exists_list len hel'
    have hmk:∀ (i:Nat) (cs:List V),css[i]?=some cs→(mkEl ag cs).cells=cs:=by
     intro i cs hi
     cases ag with
     | true=>rfl
     | false =>
      obtain ⟨p1,_,p3,_⟩:=c2 i cs hi
      rw [hag rfl] at p1
      match cs,p1 with
      | [v],_ =>
       obtain ⟨y,_,q2,q3⟩:=p3 0 v rfl
       exact vr_not_agg q2 q3
    refine ⟨_,crs_one (x:=.slice (some a) len cap) (.vec (css.map (mkEl ag)) .any a len cap (P.cellsOf e) (fun i j=>(W.cell? (a.add (i * P.cellsOf e + j))).getD undef) rfl (by simp [c1]) hlc (by simp) (fun i el hi=>?_) (fun i el j v hi hj=>?_) (fun i el j v hi hj=>?_)) rfl,
     .slice hu ha css (fun cs hcs=>?_) (by omega),h1.symm,?_,fun h=>by unfold aggT at h; rw [hu] at h; cases h⟩
    ·rw [List.getElem?_map,Option.map_eq_some_iff] at hi
     obtain ⟨cs,hi,rfl⟩:=hi
     rw [hmk i cs hi]
     exact (c2 i cs hi).1
    ·rw [List.getElem?_map,Option.map_eq_some_iff] at hi
     obtain ⟨cs,hi,rfl⟩:=hi
     rw [hmk i cs hi] at hj
     obtain ⟨y,q1,q2,q3⟩:=(c2 i cs hi).2.2.1 j v hj
     rw [q1]
     exact ⟨rfl,by have:=cell_lim q1; rwa [addr_add_block] at this,q3⟩
    ·rw [List.getElem?_map,Option.map_eq_some_iff] at hi
     obtain ⟨cs,hi,rfl⟩:=hi
     rw [hmk i cs hi] at hj
     obtain ⟨y,q1,q2,q3⟩:=(c2 i cs hi).2.2.1 j v hj
     rw [q1]
     exact q2
    ·obtain ⟨i,hi⟩:=List.mem_iff_getElem?.1 hcs
     exact (c2 i cs hi).2.1
    ·rw [bulks_one,V.bulk]
     refine Nat.le_trans ?_ (hB.slice _ _)
     rw [List.map_map]
     refine Nat.add_le_add_right (bulks_le (by simp [c1,g1]) (fun i a y h1 h2=>?_)) 1
     rw [List.getElem?_map,Option.map_eq_some_iff] at h1
     obtain ⟨cs,h1,rfl⟩:=h1
     exact (c2 i cs h1).2.2.2 y h2
   ·simp at h
  ·rename_i cs _ _ fs hu
   rw [hu] at hk
   simp only [Bool.and_eq_true,beq_iff_eq,List.all_eq_true] at hk
   obtain ⟨hk1,hk2⟩:=hk
   split at h
   ·rename_i hl
    rw [Option.map_eq_some_iff] at h
    obtain ⟨xs,hxs,rfl⟩:=h
    obtain ⟨g1,g2⟩:=mapM_list hxs
    have hel:∀ i,i < fs.size→∃ vs:List V,∀ f,fs[i]?=some f→CRs (k0 W) W vs ((cs.drop f.offset).take (P.cellsOf f.type))∧Ty P f.type vs∧∀ y,xs[i]?=some y→V.bulks vs ≤ B y.1:=by
     intro i hi
     obtain ⟨f,hf⟩:∃ f,fs[i]?=some f:=⟨fs[i],Array.getElem?_eq_getElem hi⟩
     obtain ⟨y,hy,hyi⟩:=g2 i f (by simpa using hf)
     obtain ⟨vs,r1,r2,_,r4,_⟩:=ih _ _ _ (hk1 f (List.mem_of_getElem? (by simpa using hf))) hy
     exact ⟨vs,fun f' hf'=>by rw [hf] at hf'; cases hf'; exact ⟨r1,r2,fun y' hy'=>by rw [hyi] at hy'; cases hy'; exact r4⟩⟩
    obtain ⟨parts,c1,c2⟩:=exists_list fs.size hel
    have hrows:=(tile_rows hk2 hl).1
    rw [List.drop_zero] at hrows
    have hcr:CRs (k0 W) W parts.flatten cs:=by
     rw [hrows]
     refine crs_parts (by simp [c1]) (fun i vs xs h1 h2=>?_)
     rw [List.getElem?_map,Option.map_eq_some_iff] at h2
     obtain ⟨f,hf,rfl⟩:=h2
     exact (c2 i vs h1 f (by simpa using hf)).1
    have hbk:V.bulks parts.flatten + 1 ≤ B (.agg (xs.map (·.1))):=by
     refine Nat.le_trans ?_ (hB.agg _)
     rw [List.map_map]
     refine Nat.add_le_add_right (bulks_flat (by rw [c1,g1]; simp) (fun i a y h1 h2=>?_)) 1
     have hi:i < fs.size:=by rw [← c1]; exact (List.getElem?_eq_some_iff.1 h1).1
     exact (c2 i a h1 fs[i] (Array.getElem?_eq_getElem hi)).2.2 y h2
    exact ⟨parts.flatten,hcr,.struct hu parts c1 (fun i f vs hf hi=>(c2 i vs hi f hf).2.1),by rw [← hcr.1,hl],by show _ ≤ B (.agg _); omega,fun _=>hbk⟩
   ·simp at h
  ·rename_i cs _ _ n e hu
   rw [hu] at hk
   simp only [Bool.and_eq_true,beq_iff_eq] at hk
   obtain ⟨hk1,hk2⟩:=hk
   split at h
   ·rename_i hl
    rw [Option.map_eq_some_iff] at h
    obtain ⟨xs,hxs,rfl⟩:=h
    obtain ⟨g1,g2⟩:=mapM_range hxs
    have hel:∀ i,i < n→∃ vs:List V,CRs (k0 W) W vs ((cs.drop (i * P.cellsOf e)).take (P.cellsOf e))∧Ty P e vs∧∀ y,xs[i]?=some y→V.bulks vs ≤ B y.1:=by
     intro i hi
     obtain ⟨y,hy,hyi⟩:=g2 i hi
     obtain ⟨vs,r1,r2,_,r4,_⟩:=ih _ _ _ hk1 hy
     exact ⟨vs,r1,r2,fun y' hy'=>by rw [hyi] at hy'; cases hy'; exact r4⟩
    obtain ⟨parts,c1,c2⟩:=exists_list n hel
    have hrows:=chop_rows (n:=n) (z:=P.cellsOf e) (cs:=cs) (by omega)
    have hcr:CRs (k0 W) W parts.flatten cs:=by
     rw [hrows]
     refine crs_parts (by simp [c1]) (fun i vs xs h1 h2=>?_)
     rw [List.getElem?_map,Option.map_eq_some_iff] at h2
     obtain ⟨f,hf,rfl⟩:=h2
     obtain ⟨hf1,hf2⟩:=List.getElem?_eq_some_iff.1 hf
     simp at hf2; subst hf2
     exact (c2 i vs h1).1
    have hbk:V.bulks parts.flatten + 1 ≤ B (.agg (xs.map (·.1))):=by
     refine Nat.le_trans ?_ (hB.agg _)
     rw [List.map_map]
     exact Nat.add_le_add_right (bulks_flat (by rw [c1,g1]) (fun i a y h1 h2=>(c2 i a h1).2.2 y h2)) 1
    refine ⟨parts.flatten,hcr,.array hu parts c1 (fun vs hvs=>?_),by rw [← hcr.1,hl],by show _ ≤ B (.agg _); omega,fun _=>hbk⟩
    obtain ⟨i,hi⟩:=List.mem_iff_getElem?.1 hvs
    exact (c2 i vs hi).2.1
   ·simp at h
  all_goals first
   | (simp at h; done)
   | (rename_i hu; rw [hu] at hk; simp at hk; done)
   | (rename_i hu _; rw [hu] at hk; simp at hk; done)
   | (rename_i hu _ _; rw [hu] at hk; simp at hk; done)
   | skip
theorem arg_VB {B:DataW H'→Nat} (hB:BulkOK B) (hc:closedT P ts=true) {t:TypeId} (ht:ts.contains t=true) {b0:Nat} {v:Value} {d:DataW H'} {ps:List MemPlace} (hd:DataW.Trod enc P W 0 (fun _=>true) true t v d ps)
  (hok:Value.okWide P W .any b0 t v):∃ u,VR (k0 W) W u v∧TyArg P t u∧u.bulk ≤ B d:=by
 obtain ⟨fuel,hd⟩:=hd
 obtain ⟨cs,h1,h2,h3,h4,h5⟩:=trod_VB hB hc fuel t _ _ ht hd
 obtain ⟨ag,ha,hag⟩:=closed_agg hc ht
 refine ⟨mkEl ag cs,?_,⟨ag,cs,ha,rfl,h2⟩,?_⟩
 rotate_left
 ·cases ag with
  | true=>exact h5 ha
  | false =>
   rw [hag rfl] at h3
   match cs,h3 with
   | [v],_=>rw [bulks_one] at h4; exact h4
 cases ag with
 | true =>
  have hv:∃ arr,v=.agg arr:=by
   unfold aggT at ha
   unfold Value.okWide at hok
   split at ha <;> rename_i hu
   ·rw [hu] at hok; obtain ⟨arr,h,_⟩:=hok; exact ⟨arr,h⟩
   ·rw [hu] at hok; obtain ⟨arr,h,_⟩:=hok; exact ⟨arr,h⟩
   ·cases ha
   ·cases ha
  obtain ⟨arr,rfl⟩:=hv
  have h1':CRs (k0 W) W cs arr.toList:=h1
  refine .agg cs arr (fun j=>arr.toList[j]?.getD undef) (by simpa using h1'.1) (fun j u hj=>?_) (fun j u hj=>?_)
  ·obtain ⟨x,p,q,r⟩:=h1'.2 j u hj
   rw [p]; exact ⟨by simpa using p,r⟩
  ·obtain ⟨x,p,q,r⟩:=h1'.2 j u hj
   rw [p]; exact q
 | false =>
  rw [hag rfl] at h3
  match cs,h3 with
  | [u],_ =>
   obtain ⟨x,p,q,r⟩:=h1.2 0 u rfl
   have hlen:v.cells.toList.length=1:=h1.1
   have hv:v.cells=#[v]:=by
    cases v with
    | agg arr =>
     exfalso
     have hcl:=closed_at hc ht
     have hu0:∀ fs,P.underlying t ≠ some (.struct fs):=fun fs hu=>by unfold aggT at ha; rw [hu] at ha; cases ha
     have hu1:∀ n e,P.underlying t ≠ some (.array n e):=fun n e hu=>by unfold aggT at ha; rw [hu] at ha; cases ha
     unfold Value.okWide at hok
     split at hok
     ·rename_i hu; exact hu0 _ hu
     ·rename_i hu; exact hu1 _ _ hu
     ·unfold Cell.okWide at hok
      split at hcl <;> rename_i hu
      ·rw [hu] at hok; simp [Cell.ok,hu] at hok
      ·rw [hu] at hok; simp [Cell.ok,hu] at hok
      ·rw [hu] at hok; simp [Cell.ok,hu] at hok
      ·rw [hu] at hok; simp [Cell.ok,hu] at hok
      ·exact hu0 _ hu
      ·exact hu1 _ _ hu
      ·cases hcl
    | _=>rfl
   rw [hv] at p
   simp at p
   subst p
   exact q
theorem args_VB {B:DataW H'→Nat} (hB:BulkOK B) (hc:closedT P ts=true) {b0:Nat}:∀ {tys:List TypeId} {vs:List Value} {ds:List (DataW H')} {ps:List MemPlace},(∀ t ∈ tys,ts.contains t=true)→DataW.TrodAll enc P W 0 (fun _=>true) true tys vs ds ps →
  (∀ (j:Nat) t v,tys[j]?=some t→vs[j]?=some v→Value.okWide P W .any b0 t v)→∃ us,us.length=vs.length∧(∀ (j:Nat) (u:V),us[j]?=some u→∃ x,vs[j]?=some x∧VR (k0 W) W u x)∧TyArgs P tys us∧V.bulks us ≤ (ds.map B).sum
 | [],[],[],ps,_,_,_=>⟨[],rfl,fun j u h=>by simp at h,rfl,Nat.le_refl _⟩
 | [],_ :: _,_,_,_,h,_=>h.elim
 | [],[],_ :: _,_,_,h,_=>h.elim
 | _ :: _,[],_,_,_,h,_=>h.elim
 | _ :: _,_ :: _,[],_,_,h,_=>h.elim
 | t :: tys,v :: vs,d :: ds,ps,ht,h,hok=>by
  obtain ⟨p,q,h1,h2,_⟩:=h
  obtain ⟨u,g1,g2,g6⟩:=arg_VB hB hc (ht t (by simp)) h1 (hok 0 t v rfl rfl)
  obtain ⟨us,g3,g4,g5,g7⟩:=args_VB hB hc (fun t h=>ht t (by simp [h])) h2 (fun j t v h1 h2=>hok (j + 1) t v (by simpa using h1) (by simpa using h2))
  refine ⟨u :: us,by simp [g3],fun j w hj=>?_,⟨u,us,rfl,g2,g5⟩,by rw [V.bulks,List.map_cons,List.sum_cons]; omega⟩
  cases j with
  | zero=>simp at hj; subst hj; exact ⟨v,rfl,g1⟩
  | succ j=>simpa using g4 j w (by simpa using hj)
end
end Go.Ab
namespace Go.Ab
theorem sumL_bulks {α:Type} {f:α→V} {g:α→Nat} {c:Nat}:∀ {l:List α},(∀ x ∈ l,g x ≤ c * (f x).bulk)→sumL g l ≤ c * V.bulks (l.map f)
 | [],_=>Nat.zero_le _
 | x :: l,h=>by
  have h1:=h x (by simp)
  have h2:=sumL_bulks (l:=l) (fun y hy=>h y (by simp [hy]))
  rw [sumL,List.map_cons,V.bulks,Nat.mul_add]; omega
theorem exp_bulk {k o:Int} {n:Nat} {s:ByteArray} {ks:List Exp}:(Exp.mk k o n s ks).v.bulk=6 + s.size + V.bulks (ks.map Exp.v):=by
 rw [Exp.v_mk]; simp only [V.bulk,V.bulks]; omega
theorem stm_bulk {k:Int} {s:ByteArray} {e:List Exp} {a b:List Stm}:(Stm.mk k s e a b).v.bulk=6 + s.size + V.bulks (e.map Exp.v) + V.bulks (a.map Stm.v) + V.bulks (b.map Stm.v):=by
 rw [Stm.v_mk]; simp only [V.bulk,V.bulks]; omega
theorem prg_bulk {p:Prg}:p.v.bulk=4 + V.bulks (p.ins.map InD.v) + V.bulks (p.arrays.map ArD.v) + V.bulks (p.body.map Stm.v):=by
 simp only [Prg.v,Prg.cells,V.bulk,V.bulks]; omega
theorem nth_sum:∀ {l:List (Int × Nat)},(nth l 0).2 + (nth l 1).2 + (nth l 2).2 ≤ sumL (fun x=>x.2) l
 | []=>Nat.le_refl _
 | [a]=>by simp [nth,sumL]
 | [a,b]=>by simp [nth,sumL]
 | a :: b :: c :: r=>by simp [nth,sumL] <;> omega
theorem at0_sum:∀ {l:List Nat},at0 l 0 + at0 l 1 ≤ sumL (fun x=>x) l
 | []=>Nat.le_refl _
 | [a]=>by simp [at0,sumL]
 | a :: b :: r=>by simp [at0,sumL] <;> omega
theorem sumL_map {α β:Type} {f:α→β} {g:β→Nat}:∀ {l:List α},sumL g (l.map f)=sumL (fun x=>g (f x)) l
 | []=>rfl
 | x :: l=>by rw [List.map_cons,sumL,sumL,sumL_map]
theorem held_le {x:Int × Nat} {m:Int}:held x m ≤ x.2 + 2:=by unfold held; split <;> omega
theorem tlen_bulk (e:Exp):EOk e→tlen e ≤ 4 * e.v.bulk:=by
 induction e using Exp.ind with
 | h k o n s ks ih =>
  intro ok
  obtain ⟨_,_,hn,_,_,hks⟩:=EOk_mk ok
  have h1:sumL tlen ks ≤ 4 * V.bulks (ks.map Exp.v):=sumL_bulks fun x hx=>ih x hx (hks x hx)
  have h2:=nth_sum (l:=ks.map tl)
  rw [sumL_map] at h2
  have h3:sumL (fun x=>(tl x).2) ks=sumL tlen ks:=rfl
  have d:=dlen_le20 hn
  have a1:=held_le (x:=nth (ks.map tl) 0) (m:=8)
  have a2:=held_le (x:=nth (ks.map tl) 0) (m:=2)
  have a3:=held_le (x:=nth (ks.map tl) 0) (m:=precE k o)
  have a4:=held_le (x:=nth (ks.map tl) 1) (m:=precE k o + 1)
  rw [tlen_mk,exp_bulk]
  unfold tlenOf
  repeat' split
  all_goals omega
theorem llen_bulk (x:Stm):∀ lv ind,VS x lv→SOk x→ind ≤ 2 * lv→llen x ind ≤ 40 * x.v.bulk:=by
 induction x using Stm.ind with
 | h k s e a b iha ihb =>
  intro lv ind hv ok hi
  obtain ⟨v1,v2,v3,v4,v5,v6,v7,v8,v9,v10,v11⟩:=VS_mk.1 hv
  obtain ⟨_,hs,_,hla,hlb,oke,oka,okb⟩:=SOk_mk ok
  have g:∀ (l:List Stm),llens l (ind + 2)=sumL (fun x=>llen x (ind + 2)) l:=fun l=>by
   induction l with
   | nil=>rfl
   | cons x l ih=>rw [llens,sumL,ih]
  have h1:llens a (ind + 2) ≤ 40 * V.bulks (a.map Stm.v):=by
   rw [g]
   exact sumL_bulks fun x hx=>iha x hx (lv + 1) (ind + 2) (VSs_all.1 v10 x hx) (oka x hx) (by omega)
  have h2:llens b (ind + 2) ≤ 40 * V.bulks (b.map Stm.v):=by
   rw [g]
   exact sumL_bulks fun x hx=>ihb x hx (lv + 1) (ind + 2) (VSs_all.1 v11 x hx) (okb x hx) (by omega)
  have h3:sumL tlen e ≤ 4 * V.bulks (e.map Exp.v):=sumL_bulks fun x hx=>tlen_bulk x (oke x hx)
  have h4:=at0_sum (l:=e.map tlen)
  rw [sumL_map] at h4
  have h5:sumL (fun x=>tlen x) e=sumL tlen e:=rfl
  have e:llen (.mk k s e a b) ind=llenOf k s (e.map tlen) (llens a (ind + 2)) (llens b (ind + 2)) b.length ind:=by rw [llen]
  rw [e,stm_bulk]
  unfold llenOf
  repeat' split
  all_goals omega
theorem flen_bulk {p:Prg} (ok:POk p) (hv:VSs p.body 1):flen p ≤ 40 * p.v.bulk:=by
 have h1:sumL ilen p.ins ≤ 40 * V.bulks (p.ins.map InD.v):=sumL_bulks fun x hx=>by
  obtain ⟨s,f,w,z⟩:=x
  have hx:=ok.ins _ hx
  have g:∀ {n:Int},I64 n→dlen n.toNat ≤ 20:=fun h=>dlen_le20 (by have:=h.2; omega)
  have a1:=g hx.f
  have a2:=g hx.w
  have a3:=g hx.s
  simp only at a1 a2 a3
  have hb:(InD.v ⟨s,f,w,z⟩).bulk=5 + s.size:=by simp only [InD.v,InD.cells,V.bulk,V.bulks]; omega
  rw [hb]
  unfold ilen
  simp only
  split <;> omega
 have h2:sumL alen p.arrays ≤ 40 * V.bulks (p.arrays.map ArD.v):=sumL_bulks fun x hx=>by
  obtain ⟨s,z⟩:=x
  have hx:=ok.arrays _ hx
  have g:∀ {n:Int},I64 n→dlen n.toNat ≤ 20:=fun h=>dlen_le20 (by have:=h.2; omega)
  have a3:=g hx.s
  simp only at a3
  have hb:(ArD.v ⟨s,z⟩).bulk=3 + s.size:=by simp only [ArD.v,ArD.cells,V.bulk,V.bulks]; omega
  rw [hb]
  unfold alen
  simp only
  omega
 have h3:llens p.body 0 ≤ 40 * V.bulks (p.body.map Stm.v):=by
  have g:∀ (l:List Stm),llens l 0=sumL (fun x=>llen x 0) l:=fun l=>by
   induction l with
   | nil=>rfl
   | cons x l ih=>rw [llens,sumL,ih]
  rw [g]
  exact sumL_bulks fun x hx=>llen_bulk x 1 0 (VSs_all.1 hv x hx) (ok.body x hx) (by omega)
 rw [prg_bulk]
 unfold flen
 omega
end Go.Ab
namespace Go.Ab
namespace YtemlhjlceeiflaaDoor
section
variable {h:H} {K:Out→H→Prop}
def ShE (l:List Exp):Prop:=∀ (level left:Int) (h:H) (K:Out→H→Prop),(∀ n:Int,K (.ret (I n)) h)→R 52 [.vec (l.map Exp.v) .any,I level,I left] h K
def ShS (l:List Stm):Prop:=∀ (level left:Int) (h:H) (K:Out→H→Prop),(∀ n:Int,K (.ret (I n)) h)→R 30 [.vec (l.map Stm.v) .any,I level,I left] h K
theorem shE_of (l:List Exp) (hl:l.length ≤ maxLen) (ih:∀ x ∈ l,ShE x.kids):ShE l:=by
 intro level left h K hK
 have hm:=maxLen_eq
 refine run52 (Nat.le_of_ble_eq_true rfl) ?_
 simp -dsimp -implicitDefEqProofs only [↓STP,STQ,seval,ir52]
 refine codeT_loop (fun k st=>∃ (i:Nat) (t:Int),k=l.length - i∧i ≤ l.length∧st=⟨upd (upd (upd (upd ρ0 0 (.vec (l.map Exp.v) .any)) 1 (I level)) 2 (I t)) 7 (I i),m0,0,[],h⟩) (i:=l.length) ?_ ?_ mono
 ·exact ⟨0,_,by omega,Nat.zero_le _,rfl⟩
 rintro k st ⟨i,t,rfl,hi,rfl⟩
 by_cases hlt:i < l.length
 rotate_left
 ·have:i=l.length:=by omega
  subst this
  simp -dsimp -implicitDefEqProofs only [↓STP,STQ,seval,List.length_map,Int.lt_irrefl]
  exact hK _
 have hget:=get_map (f:=Exp.v) hlt
 have ihx:=ih _ (List.getElem_mem hlt)
 have w1:=wiM (show i < 9223372036854775807 by omega)
 generalize l[i]=x at *
 by_cases c:0 ≤ t
 rotate_left
 ·simp -dsimp -implicitDefEqProofs only [↓STP,STQ,seval,List.length_map,Int.ofNat_lt,hlt,eq_false c]
  exact hK _
 by_cases d:40 < level
 ·simp -dsimp -implicitDefEqProofs only [↓STP,STQ,seval,List.length_map,Int.ofNat_lt,hlt,eq_true c,eq_true d]
  exact hK _
 obtain ⟨k,o,n,s,ks⟩:=x
 simp -dsimp -implicitDefEqProofs only [↓STP,STQ,seval,List.length_map,Int.ofNat_lt,hlt,eq_true c,eq_false d,hget,Exp.v_mk]
 refine ihx _ _ _ _ fun n=>?_
 simp -dsimp -implicitDefEqProofs only [↓STP,STQ,seval,w1]
 exact ⟨l.length - (i + 1),by omega,i + 1,_,rfl,by omega,rfl⟩
theorem shE_kids (e:Exp):EOk e→ShE e.kids:=by
 induction e using Exp.ind with
 | h k o n s ks ih =>
  intro ok
  obtain ⟨_,_,_,_,hl,hks⟩:=EOk_mk ok
  exact shE_of ks hl fun x hx=>ih x hx (hks x hx)
theorem shE {l:List Exp} (hl:l.length ≤ maxLen) (ok:∀ x ∈ l,EOk x):ShE l:=shE_of l hl fun x hx=>shE_kids x (ok x hx)
theorem shS_of (l:List Stm) (hl:l.length ≤ maxLen) (ihe:∀ x ∈ l,ShE x.e) (iha:∀ x ∈ l,ShS x.thn) (ihb:∀ x ∈ l,ShS x.els):ShS l:=by
 intro level left h K hK
 have hm:=maxLen_eq
 refine run30 (Nat.le_of_ble_eq_true rfl) ?_
 simp -dsimp -implicitDefEqProofs only [↓STP,STQ,seval,ir30]
 refine codeT_loop (fun k st=>∃ (i:Nat) (t:Int),k=l.length - i∧i ≤ l.length∧st=⟨upd (upd (upd (upd ρ0 0 (.vec (l.map Stm.v) .any)) 1 (I level)) 2 (I t)) 7 (I i),m0,0,[],h⟩) (i:=l.length) ?_ ?_ mono
 ·exact ⟨0,_,by omega,Nat.zero_le _,rfl⟩
 rintro k st ⟨i,t,rfl,hi,rfl⟩
 by_cases hlt:i < l.length
 rotate_left
 ·have:i=l.length:=by omega
  subst this
  simp -dsimp -implicitDefEqProofs only [↓STP,STQ,seval,List.length_map,Int.lt_irrefl]
  exact hK _
 have hget:=get_map (f:=Stm.v) hlt
 have ihx:=ihe _ (List.getElem_mem hlt)
 have ihy:=iha _ (List.getElem_mem hlt)
 have ihz:=ihb _ (List.getElem_mem hlt)
 have w1:=wiM (show i < 9223372036854775807 by omega)
 generalize l[i]=x at *
 by_cases c:0 ≤ t
 rotate_left
 ·simp -dsimp -implicitDefEqProofs only [↓STP,STQ,seval,List.length_map,Int.ofNat_lt,hlt,eq_false c]
  exact hK _
 by_cases d:40 < level
 ·simp -dsimp -implicitDefEqProofs only [↓STP,STQ,seval,List.length_map,Int.ofNat_lt,hlt,eq_true c,eq_true d]
  exact hK _
 obtain ⟨k,s,e,a,b⟩:=x
 simp -dsimp -implicitDefEqProofs only [↓STP,STQ,seval,List.length_map,Int.ofNat_lt,hlt,eq_true c,eq_false d,hget,Stm.v_mk]
 refine ihx _ _ _ _ fun n=>?_
 simp -dsimp -implicitDefEqProofs only [↓STP,STQ,seval,hget,Stm.v_mk]
 refine ihy _ _ _ _ fun n=>?_
 simp -dsimp -implicitDefEqProofs only [↓STP,STQ,seval,hget,Stm.v_mk]
 refine ihz _ _ _ _ fun n=>?_
 simp -dsimp -implicitDefEqProofs only [↓STP,STQ,seval,w1]
 exact ⟨l.length - (i + 1),by omega,i + 1,_,rfl,by omega,rfl⟩
theorem shS_parts (x:Stm):SOk x→ShE x.e∧ShS x.thn∧ShS x.els:=by
 induction x using Stm.ind with
 | h k s e a b iha ihb =>
  intro ok
  obtain ⟨_,hs,hle,hla,hlb,oke,oka,okb⟩:=SOk_mk ok
  exact ⟨shE hle oke,shS_of a hla (fun x hx=>(iha x hx (oka x hx)).1) (fun x hx=>(iha x hx (oka x hx)).2.1) (fun x hx=>(iha x hx (oka x hx)).2.2),
   shS_of b hlb (fun x hx=>(ihb x hx (okb x hx)).1) (fun x hx=>(ihb x hx (okb x hx)).2.1) (fun x hx=>(ihb x hx (okb x hx)).2.2)⟩
theorem shS {l:List Stm} (hl:l.length ≤ maxLen) (ok:∀ x ∈ l,SOk x):ShS l:=
 shS_of l hl (fun x hx=>(shS_parts x (ok x hx)).1) (fun x hx=>(shS_parts x (ok x hx)).2.1) (fun x hx=>(shS_parts x (ok x hx)).2.2)
theorem few27 {p:Prg} (ok:POk p) {n:Int} (hK:∀ b:Bool,K (.ret (.bool b)) h):R 16 [p.v,I n] h K:=by
 refine run16 (Nat.le_of_ble_eq_true rfl) ?_
 by_cases a:(p.ins.length:Int) ≤ 40
 rotate_left
 ·simp -dsimp -implicitDefEqProofs only [↓STP,STQ,seval,Prg.v,Prg.cells,ir16,List.length_map,eq_false a]
  exact hK _
 by_cases b:(p.arrays.length:Int) ≤ 40
 rotate_left
 ·simp -dsimp -implicitDefEqProofs only [↓STP,STQ,seval,Prg.v,Prg.cells,ir16,List.length_map,eq_true a,eq_false b]
  exact hK _
 simp -dsimp -implicitDefEqProofs only [↓STP,STQ,seval,Prg.v,Prg.cells,ir16,List.length_map,eq_true a,eq_true b]
 refine shS ok.lb ok.body _ _ _ _ fun n=>?_
 simp -dsimp -implicitDefEqProofs only [↓STP,STQ,seval]
 exact hK _
theorem few_spec {p:Prg} (ok:POk p) (hb:p.v.bulk ≤ 20000000) {n:Int} (hK:∀ b:Bool,(b=true→VP p)→K (.ret (.bool b)) h):R 6 [p.v,I n] h K:=by
 refine run6 (Nat.le_of_ble_eq_true rfl) ?_
 simp -dsimp -implicitDefEqProofs only [↓STP,STQ,seval,ir6]
 refine few27 ok fun b=>?_
 cases b with
 | false =>
  simp -dsimp -implicitDefEqProofs only [↓STP,STQ,seval]
  exact hK _ (fun h=>by cases h)
 | true =>
  simp -dsimp -implicitDefEqProofs only [↓STP,STQ,seval]
  refine valid27 ok (fun _ _ hv=>by have:=flen_bulk ok hv; omega) fun b hb=>?_
  simp -dsimp -implicitDefEqProofs only [↓STP,STQ,seval]
  exact hK _ hb.1
end
end YtemlhjlceeiflaaDoor
end Go.Ab
namespace Go.Ab
def blen (n:Nat):Nat:=if n=0 then 0 else 1 + blen (n / 2)
decreasing_by omega
theorem blen_zero:blen 0=0:=by rw [blen,if_pos rfl]
theorem blen_pos {n:Nat} (h:n ≠ 0):blen n=1 + blen (n / 2):=by rw [blen,if_neg h]
theorem blen_le:∀ {k n:Nat},blen n ≤ k ↔ n < 2 ^ k
 | k,n=>by
  induction k generalizing n with
  | zero =>
   by_cases h:n=0
   ·subst h; simp [blen_zero]
   ·rw [blen_pos h]; simp; omega
  | succ k ih =>
   by_cases h:n=0
   ·subst h; rw [blen_zero]; exact ⟨fun _=>Nat.two_pow_pos _,fun _=>by omega⟩
   ·rw [blen_pos h]
    have:=ih (n:=n / 2)
    rw [Nat.pow_succ]
    constructor
    ·intro h1; have:=this.1 (by omega); omega
    ·intro h1; have:=this.2 (by omega); omega
theorem blen_shift {n:Nat}:∀ k,2 ^ k ≤ n→blen n=k + blen (n / 2 ^ k)
 | 0,_=>by simp
 | k + 1,h=>by
  rw [Nat.pow_succ] at h
  have hp:=Nat.two_pow_pos k
  rw [blen_shift k (by omega),Nat.pow_succ,← Nat.div_div_eq_div_mul,blen_pos (n:=n / 2 ^ k)]
  ·omega
  ·have:1 ≤ n / 2 ^ k:=(Nat.le_div_iff_mul_le hp).2 (by omega)
   omega
theorem maxV_two {k k':IntKind} {x y:Int}:maxV (.int k x) [.int k' y]=some (.int k (if y > x then y else x)):=rfl
theorem minV_two {k k':IntKind} {x y:Int}:minV (.int k x) [.int k' y]=some (.int k (if y < x then y else x)):=rfl
namespace YtemlhjlceeiflaaDoor
theorem blen_tab:∀ n:Fin 256,bytes0.data.toList[n.1]?=some (UInt8.ofNat (blen n.1)):=by decide +kernel
section
variable {h:H} {K:Out→H→Prop} {n:Nat}
theorem fdivN {a b:Nat}:Int.fdiv (a:Int) (b:Int)=((a / b:Nat):Int):=by
 rw [Int.fdiv_eq_ediv_of_nonneg _ (by omega)]; rfl
theorem tab {n:Nat} (h:n < 256):bytes0.data.toList[n]?=some (UInt8.ofNat (blen n)):=blen_tab ⟨n,h⟩
theorem u8b {n:Nat} (h:n < 256):(UInt8.ofNat (blen n)).toNat=blen n:=by
 have:blen n ≤ 8:=blen_le.2 (by omega)
 rw [UInt8.toNat_ofNat']; omega
theorem len64_full (hn:n < 18446744073709551616) (hK:K (.ret (I (blen n))) h):R 90 [W n] h K:=by
 refine run90 (Nat.le_of_ble_eq_true rfl) ?_
 have f1:∀ a:Nat,Int.fdiv (a:Int) (2 ^ (min 32 IntKind.u64.bits))=((a / 4294967296:Nat):Int):=fun a=>fdivN
 have f2:∀ a:Nat,Int.fdiv (a:Int) (2 ^ (min 16 IntKind.u64.bits))=((a / 65536:Nat):Int):=fun a=>fdivN
 have f3:∀ a:Nat,Int.fdiv (a:Int) (2 ^ (min 8 IntKind.u64.bits))=((a / 256:Nat):Int):=fun a=>fdivN
 have wi:∀ n:Int,0 ≤ n→n ≤ 100→IntKind.i64.wrap n=n:=fun n h0 h1=>wrap_i64 (by omega) (by omega)
 have go:∀ {a c:Nat},a < 256→blen n=c + blen a→c ≤ 56→K (.ret (I (IntKind.i64.wrap ((c:Int) + IntKind.i64.wrap ((UInt8.ofNat (blen a)).toNat:Nat))))) h:=fun {a c} h1 h2 h3=>by
  have:blen a ≤ 8:=blen_le.2 (by omega)
  rw [u8b h1,wi (blen a:Nat) (by omega) (by omega),wi _ (by omega) (by omega)]
  rw [h2] at hK
  exact hK
 have u8:∀ {a:Nat},a < 256→IntKind.u8.wrap (a:Int)=(a:Int):=fun {a} h=>by rw [wrap_u8]; omega
 by_cases a:(4294967296:Int) ≤ (n:Int)
 ·by_cases b:(65536:Int) ≤ ((n / 4294967296):Nat)
  ·by_cases c:(256:Int) ≤ (((n / 4294967296) / 65536):Nat)
   ·have hl:(((n / 4294967296) / 65536) / 256) < 256:=by omega
    have hb:blen n=56 + blen (((n / 4294967296) / 65536) / 256):=by
     have:=blen_shift (n:=n) 32 (by omega)
     have:=blen_shift (n:=(n / 4294967296)) 16 (by omega)
     have:=blen_shift (n:=((n / 4294967296) / 65536)) 8 (by omega)
     try simp only [Nat.reducePow] at *
     omega
    simp -dsimp -implicitDefEqProofs only [↓STP,STQ,seval,ir90,eq_true a,eq_true b,eq_true c,f1,f2,f3,u8 hl,tab hl,wi 8 (by omega) (by omega),wi 16 (by omega) (by omega),wi 24 (by omega) (by omega),wi 40 (by omega) (by omega),wi 48 (by omega) (by omega),wi 56 (by omega) (by omega)]
    exact go (c:=56) hl hb (by decide)
   ·have hl:((n / 4294967296) / 65536) < 256:=by omega
    have hb:blen n=48 + blen ((n / 4294967296) / 65536):=by
     have:=blen_shift (n:=n) 32 (by omega)
     have:=blen_shift (n:=(n / 4294967296)) 16 (by omega)
     try simp only [Nat.reducePow] at *
     omega
    simp -dsimp -implicitDefEqProofs only [↓STP,STQ,seval,ir90,eq_true a,eq_true b,eq_false c,f1,f2,f3,u8 hl,tab hl,wi 8 (by omega) (by omega),wi 16 (by omega) (by omega),wi 24 (by omega) (by omega),wi 40 (by omega) (by omega),wi 48 (by omega) (by omega),wi 56 (by omega) (by omega)]
    exact go (c:=48) hl hb (by decide)
  ·by_cases c:(256:Int) ≤ ((n / 4294967296):Nat)
   ·have hl:((n / 4294967296) / 256) < 256:=by omega
    have hb:blen n=40 + blen ((n / 4294967296) / 256):=by
     have:=blen_shift (n:=n) 32 (by omega)
     have:=blen_shift (n:=(n / 4294967296)) 8 (by omega)
     try simp only [Nat.reducePow] at *
     omega
    simp -dsimp -implicitDefEqProofs only [↓STP,STQ,seval,ir90,eq_true a,eq_false b,eq_true c,f1,f2,f3,u8 hl,tab hl,wi 8 (by omega) (by omega),wi 16 (by omega) (by omega),wi 24 (by omega) (by omega),wi 40 (by omega) (by omega),wi 48 (by omega) (by omega),wi 56 (by omega) (by omega)]
    exact go (c:=40) hl hb (by decide)
   ·have hl:(n / 4294967296) < 256:=by omega
    have hb:blen n=32 + blen (n / 4294967296):=by
     have:=blen_shift (n:=n) 32 (by omega)
     try simp only [Nat.reducePow] at *
     omega
    simp -dsimp -implicitDefEqProofs only [↓STP,STQ,seval,ir90,eq_true a,eq_false b,eq_false c,f1,f2,f3,u8 hl,tab hl,wi 8 (by omega) (by omega),wi 16 (by omega) (by omega),wi 24 (by omega) (by omega),wi 40 (by omega) (by omega),wi 48 (by omega) (by omega),wi 56 (by omega) (by omega)]
    exact go (c:=32) hl hb (by decide)
 ·by_cases b:(65536:Int) ≤ (n:Nat)
  ·by_cases c:(256:Int) ≤ ((n / 65536):Nat)
   ·have hl:((n / 65536) / 256) < 256:=by omega
    have hb:blen n=24 + blen ((n / 65536) / 256):=by
     have:=blen_shift (n:=n) 16 (by omega)
     have:=blen_shift (n:=(n / 65536)) 8 (by omega)
     try simp only [Nat.reducePow] at *
     omega
    simp -dsimp -implicitDefEqProofs only [↓STP,STQ,seval,ir90,eq_false a,eq_true b,eq_true c,f1,f2,f3,u8 hl,tab hl,wi 8 (by omega) (by omega),wi 16 (by omega) (by omega),wi 24 (by omega) (by omega),wi 40 (by omega) (by omega),wi 48 (by omega) (by omega),wi 56 (by omega) (by omega)]
    exact go (c:=24) hl hb (by decide)
   ·have hl:(n / 65536) < 256:=by omega
    have hb:blen n=16 + blen (n / 65536):=by
     have:=blen_shift (n:=n) 16 (by omega)
     try simp only [Nat.reducePow] at *
     omega
    simp -dsimp -implicitDefEqProofs only [↓STP,STQ,seval,ir90,eq_false a,eq_true b,eq_false c,f1,f2,f3,u8 hl,tab hl,wi 8 (by omega) (by omega),wi 16 (by omega) (by omega),wi 24 (by omega) (by omega),wi 40 (by omega) (by omega),wi 48 (by omega) (by omega),wi 56 (by omega) (by omega)]
    exact go (c:=16) hl hb (by decide)
  ·by_cases c:(256:Int) ≤ (n:Nat)
   ·have hl:(n / 256) < 256:=by omega
    have hb:blen n=8 + blen (n / 256):=by
     have:=blen_shift (n:=n) 8 (by omega)
     try simp only [Nat.reducePow] at *
     omega
    simp -dsimp -implicitDefEqProofs only [↓STP,STQ,seval,ir90,eq_false a,eq_false b,eq_true c,f1,f2,f3,u8 hl,tab hl,wi 8 (by omega) (by omega),wi 16 (by omega) (by omega),wi 24 (by omega) (by omega),wi 40 (by omega) (by omega),wi 48 (by omega) (by omega),wi 56 (by omega) (by omega)]
    exact go (c:=8) hl hb (by decide)
   ·have hl:n < 256:=by omega
    have hb:blen n=0 + blen n:=by
     try simp only [Nat.reducePow] at *
     omega
    simp -dsimp -implicitDefEqProofs only [↓STP,STQ,seval,ir90,eq_false a,eq_false b,eq_false c,f1,f2,f3,u8 hl,tab hl,wi 8 (by omega) (by omega),wi 16 (by omega) (by omega),wi 24 (by omega) (by omega),wi 40 (by omega) (by omega),wi 48 (by omega) (by omega),wi 56 (by omega) (by omega)]
    exact go (c:=0) hl hb (by decide)
theorem width_full (hn:n < 18446744073709551616) (hK:K (.ret (I (max (blen n) 1:Nat))) h):R 62 [W n] h K:=by
 refine run62 (Nat.le_of_ble_eq_true rfl) ?_
 simp -dsimp -implicitDefEqProofs only [↓STP,STQ,seval,ir62]
 refine len64_full hn ?_
 simp -dsimp -implicitDefEqProofs only [↓STP,STQ,seval,maxV_two]
 rw [show (if (1:Int) > (blen n:Nat) then (1:Int) else (blen n:Nat))=((max (blen n) 1:Nat):Int) by split <;> omega]
 exact hK
end
end YtemlhjlceeiflaaDoor
end Go.Ab
namespace Go.Ab
def KV (x:Nat × Int):V:=.agg [W x.1,I x.2]
theorem KV_eq {x:Nat × Int}:KV x=.agg [W x.1,I x.2]:=rfl
def bN (b:Bool):Nat:=if b then 1 else 0
def numK (n:Nat):Nat × Int:=if n < 1152921504606846976 then (n,1) else (0,0)
def truK (b:Bool):Nat × Int:=(bN b,2)
def opDo (o:Int) (a b:Nat):Nat × Int:=
 if o=1 then numK (a + b) else if o=2 then (a - b,1) else if o=3 then numK (a * b) else if o=4 then truK (decide (a < b)) else if o=5 then truK (decide (a=b))
 else if o=6 then truK (decide (a + b=2)) else truK (decide (0 < a + b))
def opSide (o:Int):Int:=if o ≤ 5 then 1 else 2
def nthC (l:List (Nat × Int)) (i:Nat):Nat × Int:=l.getD i (0,0)
def opOf (o:Int) (x y:Nat × Int):Nat × Int:=if x.2=opSide o∧y.2=opSide o then opDo o x.1 y.1 else (0,0)
def constOf (k o:Int) (n:Nat) (l:List (Nat × Int)):Nat × Int:=
 if l.any (fun x=>decide (x.2=0)) then (0,0)
 else if k=1 then (n,1) else if k=4 then opOf o (nthC l 0) (nthC l 1)
 else if k=5 then (if (nthC l 0).2=2 then truK (decide ((nthC l 0).1=0)) else (0,0))
 else if k=6 then (if (nthC l 0).2=2∧(nthC l 1).2=(nthC l 2).2 then (if (nthC l 0).1=1 then nthC l 1 else nthC l 2) else (0,0))
 else (0,0)
mutual
def constE:Exp→Nat × Int
 | .mk k o n s ks=>constOf k o n (constEs ks)
def constEs:List Exp→List (Nat × Int)
 | []=>[]
 | e :: es=>constE e :: constEs es
end
theorem constEs_map:∀ l:List Exp,constEs l=l.map constE
 | []=>rfl
 | e :: es=>by rw [constEs,constEs_map es]; rfl
theorem constE_mk {k o:Int} {n:Nat} {s:ByteArray} {ks:List Exp}:constE (.mk k o n s ks)=constOf k o n (ks.map constE):=by rw [constE,constEs_map]
def CK (x:Nat × Int):Prop:=(x.2=0∧x.1=0)∨(x.2=1∧x.1 < 1152921504606846976)∨(x.2=2∧x.1 ≤ 1)
theorem ck_none:CK (0,0):=.inl ⟨rfl,rfl⟩
theorem ck_num {n:Nat}:CK (numK n):=by unfold numK; split; exact .inr (.inl ⟨rfl,by assumption⟩); exact ck_none
theorem ck_tru {b:Bool}:CK (truK b):=.inr (.inr ⟨rfl,by cases b <;> decide⟩)
theorem ck_nth {l:List (Nat × Int)} {i:Nat} (h:∀ x ∈ l,CK x):CK (nthC l i):=by
 unfold nthC
 rw [List.getD_eq_getElem?_getD]
 cases hx:l[i]? with
 | none=>exact ck_none
 | some x=>exact h x (List.mem_of_getElem? hx)
theorem ck_const (e:Exp):∀ lv,VE e lv→CK (constE e):=by
 induction e using Exp.ind with
 | h k o n s ks ih =>
  intro lv hv
  obtain ⟨_,_,_,_,ho,_,hn,_,hks⟩:=VE_mk.1 hv
  have hl:∀ x ∈ ks.map constE,CK x:=fun x hx=>by
   obtain ⟨e,he,rfl⟩:=List.mem_map.1 hx
   exact ih e he _ (hks e he)
  rw [constE_mk]
  unfold constOf
  have c0:=ck_nth (i:=0) hl
  have c1:=ck_nth (i:=1) hl
  have c2:=ck_nth (i:=2) hl
  split
  ·exact ck_none
  ·split
   ·exact .inr (.inl ⟨rfl,by simp only; omega⟩)
   ·split
    ·unfold opOf opDo
     split
     ·rename_i hs
      have:=ho (by assumption)
      split
      ·exact ck_num
      ·split
       ·refine .inr (.inl ⟨rfl,?_⟩)
        have h1:opSide o=1:=by unfold opSide; rw [if_pos (by omega)]
        rcases c0 with c0 | c0 | c0 <;> simp only <;> omega
       ·split
        ·exact ck_num
        ·split
         ·exact ck_tru
         ·split
          ·exact ck_tru
          ·split <;> exact ck_tru
     ·exact ck_none
    ·split
     ·split
      ·exact ck_tru
      ·exact ck_none
     ·split
      ·split
       ·split
        ·exact c1
        ·exact c2
       ·exact ck_none
      ·exact ck_none
end Go.Ab
namespace Go.Ab
namespace YtemlhjlceeiflaaDoor
def withF (v:V) (f:FuncId→List V→List V→Prop) (F:Fix f):Prop:=match v with
 | .func (.func g) a b=>f g a b
 | _=>False
theorem withF_func {g:FuncId} {a b:List V} {f:FuncId→List V→List V→Prop} {F:Fix f}:withF (.func (.func g) a b) f F=f g a b:=rfl
theorem opT_callF {call:CallT} {ρ:Nat→V} {m:Nat→Option (List V)} {n:Nat} {u:List Nat} {h:H} {K:Ex→S→Prop} {next:S→Prop} {d:Option Nat} {f:Arg} {args:List Arg}:opT call d (.callv f args) ⟨ρ,m,n,u,h⟩ next K ⟨⟩ =
  withF (evA ρ f) (fun g a b=>withVs (outs (args.map (evA ρ))) (fun vs=>callT call g (a ++ vs ++ b) h (fun o h'=>match o with
   | .ret v=>next (S.put ⟨ρ,m,n,u,h'⟩ d (landV n v))
   | .pan v=>K (.pan v) (.blank h')) ⟨⟩) ⟨⟩) ⟨⟩:=by
 cases hf:evA ρ f with
 | func fn a b =>
  cases fn with
  | func g=>rw [opT_callv hf]; rfl
  | _=>simp only [opT,op1,isRd,eff,hf,withF,Bool.false_eq_true,if_false]
 | _=>simp only [opT,op1,isRd,eff,hf,withF,Bool.false_eq_true,if_false]
section
variable {h:H} {K:Out→H→Prop}
theorem number31 {n:Nat} {b:Bool} (hn:n < 18446744073709551616) (hK:K (.ret (KV (if b=true then numK n else (0,0)))) h):R 73 [W n,.bool b] h K:=by
 refine run73 (Nat.le_of_ble_eq_true rfl) ?_
 cases b with
 | false =>
  simp -dsimp -implicitDefEqProofs only [↓STP,STQ,seval,ir73]
  exact hK
 | true =>
  simp -dsimp -implicitDefEqProofs only [↓STP,STQ,seval,ir73]
  refine width_full hn ?_
  by_cases c:(60:Int) < (max (blen n) 1:Nat)
  ·simp -dsimp -implicitDefEqProofs only [↓STP,STQ,seval,eq_true c]
   have:¬ n < 1152921504606846976:=fun h=>by have:=(blen_le (k:=60)).2 (by omega); omega
   rw [if_pos rfl,numK,if_neg this] at hK
   exact hK
  ·simp -dsimp -implicitDefEqProofs only [↓STP,STQ,seval,eq_false c]
   have:n < 1152921504606846976:=by have:=(blen_le (k:=60) (n:=n)).1 (by omega); omega
   rw [if_pos rfl,numK,if_pos this] at hK
   exact hK
theorem truth31 {b:Bool} (hK:K (.ret (KV (truK b))) h):R 48 [.bool b] h K:=by
 refine run48 (Nat.le_of_ble_eq_true rfl) ?_
 cases b with
 | false =>
  simp -dsimp -implicitDefEqProofs only [↓STP,STQ,seval,ir48]
  exact hK
 | true =>
  simp -dsimp -implicitDefEqProofs only [↓STP,STQ,seval,ir48]
  exact hK
def opTab:List V:=[I 0,.nilfunc,I 1,.func (.func 72) [] [],I 1,.func (.func 74) [] [],I 1,.func (.func 75) [] [],
 I 1,.func (.func 76) [] [],I 1,.func (.func 77) [] [],I 2,.func (.func 78) [] [],I 2,.func (.func 79) [] []]
theorem operations31 (hK:K (.ret (.agg opTab)) h):R 47 [] h K:=by
 refine runs_fn (F:=ir47) ext2 rfl (by kernel_rfl) (Nat.le_of_ble_eq_true rfl) ?_
 simp -dsimp -implicitDefEqProofs only [↓STP,STQ,seval,ir47]
 exact hK
theorem wudiv {x a:Nat} (hx:x < 18446744073709551616):IntKind.u64.wrap ((x:Int).tdiv (a:Int))=((x / a:Nat):Int):=by
 have:=Nat.div_le_self x a
 rw [← Int.ofNat_tdiv]
 generalize x / a=y at *
 rw [wrap_u64_self] <;> omega
theorem do1 {a b:Nat} (ha:a < 1152921504606846976) (hb:b < 1152921504606846976) (hK:K (.ret (KV (opDo 1 a b))) h):R 72 [W a,W b] h K:=by
 refine run72 (Nat.le_of_ble_eq_true rfl) ?_
 simp -dsimp -implicitDefEqProofs only [↓STP,STQ,seval,ir72,wuadd (show a + b < 18446744073709551616 by omega)]
 refine number31 (by omega) ?_
 simp -dsimp -implicitDefEqProofs only [↓STP,STQ,seval,KV_eq]
 exact hK
theorem do2 {a b:Nat} (ha:a < 1152921504606846976) (hb:b < 1152921504606846976) (hK:K (.ret (KV (opDo 2 a b))) h):R 74 [W a,W b] h K:=by
 refine run74 (Nat.le_of_ble_eq_true rfl) ?_
 by_cases c:(b:Int) < (a:Int)
 ·have w:IntKind.u64.wrap ((a:Int) - (b:Int))=((a - b:Nat):Int):=by rw [wrap_u64_self] <;> omega
  simp -dsimp -implicitDefEqProofs only [↓STP,STQ,seval,ir74,minV_two,minsV,if_pos c,w]
  refine number31 (by omega) ?_
  rw [if_pos rfl,numK,if_pos (by omega)]
  simp -dsimp -implicitDefEqProofs only [↓STP,STQ,seval,KV_eq]
  exact hK
 ·have w:IntKind.u64.wrap ((a:Int) - (a:Int))=((0:Nat):Int):=by rw [wrap_u64_self] <;> omega
  simp -dsimp -implicitDefEqProofs only [↓STP,STQ,seval,ir74,minV_two,minsV,if_neg c,w]
  refine number31 (n:=0) (by omega) ?_
  rw [if_pos rfl,numK,if_pos (by omega)]
  simp -dsimp -implicitDefEqProofs only [↓STP,STQ,seval,KV_eq]
  have e:opDo 2 a b=(0,1):=by
   show (a - b,(1:Int))=_
   rw [show a - b=0 by omega]
  rw [e] at hK
  exact hK
theorem do3 {a b:Nat} (ha:a < 1152921504606846976) (hb:b < 1152921504606846976) (hK:K (.ret (KV (opDo 3 a b))) h):R 75 [W a,W b] h K:=by
 refine run75 (Nat.le_of_ble_eq_true rfl) ?_
 have w:IntKind.u64.wrap ((a:Int) * (b:Int))=((a * b % 18446744073709551616:Nat):Int):=by rw [wrap_u64,← Int.natCast_mul]; exact (Int.natCast_emod _ _).symm
 by_cases c:(a:Int)=0
 ·simp -dsimp -implicitDefEqProofs only [↓STP,STQ,seval,ir75,w,eq_true c]
  refine number31 (by omega) ?_
  have e:a=0:=by omega
  subst e
  rw [if_pos rfl]
  rw [Nat.zero_mul] at *
  simp -dsimp -implicitDefEqProofs only [↓STP,STQ,seval,KV_eq,storeV]
  simpa [opDo,KV_eq] using hK
 ·simp -dsimp -implicitDefEqProofs only [↓STP,STQ,seval,ir75,w,eq_false c]
  have hx:a * b % 18446744073709551616 < 18446744073709551616:=Nat.mod_lt _ (by decide)
  have w2:IntKind.u64.wrap (((a * b % 18446744073709551616:Nat):Int).tdiv (a:Int))=((a * b % 18446744073709551616 / a:Nat):Int):=wudiv hx
  rw [w2]
  have e:decide (((a * b % 18446744073709551616 / a:Nat):Int)=(b:Int))=decide (a * b % 18446744073709551616 / a=b):=decide_eq_decide.2 (by omega)
  rw [e]
  refine number31 hx ?_
  have ha0:0 < a:=by omega
  have fin:(if decide (a * b % 18446744073709551616 / a=b)=true then numK (a * b % 18446744073709551616) else ((0,0):Nat × Int))=opDo 3 a b:=by
   show _=numK (a * b)
   have hle:=Nat.mod_le (a * b) 18446744073709551616
   by_cases d:a * b % 18446744073709551616 / a=b
   ·rw [if_pos (by simpa using d)]
    have h1:=Nat.div_mul_le_self (a * b % 18446744073709551616) a
    rw [d,Nat.mul_comm] at h1
    rw [show a * b % 18446744073709551616=a * b by omega]
   ·rw [if_neg (by simpa using d)]
    have:¬ a * b < 18446744073709551616:=fun h=>d (by rw [Nat.mod_eq_of_lt h]; exact Nat.mul_div_cancel_left b ha0)
    unfold numK
    rw [if_neg (by omega)]
  rw [fin]
  simp -dsimp -implicitDefEqProofs only [↓STP,STQ,seval,KV_eq,storeV]
  exact hK
theorem do4 {a b:Nat} (hK:K (.ret (KV (opDo 4 a b))) h):R 76 [W a,W b] h K:=by
 refine run76 (Nat.le_of_ble_eq_true rfl) ?_
 simp -dsimp -implicitDefEqProofs only [↓STP,STQ,seval,ir76]
 refine truth31 ?_
 simp -dsimp -implicitDefEqProofs only [↓STP,STQ,seval,KV_eq,Int.ofNat_lt]
 exact hK
theorem do5 {a b:Nat} (hK:K (.ret (KV (opDo 5 a b))) h):R 77 [W a,W b] h K:=by
 refine run77 (Nat.le_of_ble_eq_true rfl) ?_
 simp -dsimp -implicitDefEqProofs only [↓STP,STQ,seval,ir77]
 refine truth31 ?_
 simp -dsimp -implicitDefEqProofs only [↓STP,STQ,seval,KV_eq,Int.ofNat_inj]
 exact hK
theorem do6 {a b:Nat} (ha:a ≤ 1) (hb:b ≤ 1) (hK:K (.ret (KV (opDo 6 a b))) h):R 78 [W a,W b] h K:=by
 refine run78 (Nat.le_of_ble_eq_true rfl) ?_
 simp -dsimp -implicitDefEqProofs only [↓STP,STQ,seval,ir78,wuadd (show a + b < 18446744073709551616 by omega)]
 refine truth31 ?_
 have e:decide (((a + b:Nat):Int)=2)=decide (a + b=2):=decide_eq_decide.2 (by omega)
 simp -dsimp -implicitDefEqProofs only [↓STP,STQ,seval,KV_eq,e]
 exact hK
theorem do7 {a b:Nat} (ha:a ≤ 1) (hb:b ≤ 1) (hK:K (.ret (KV (opDo 7 a b))) h):R 79 [W a,W b] h K:=by
 refine run79 (Nat.le_of_ble_eq_true rfl) ?_
 simp -dsimp -implicitDefEqProofs only [↓STP,STQ,seval,ir79,wuadd (show a + b < 18446744073709551616 by omega)]
 refine truth31 ?_
 have e:decide ((0:Int) < ((a + b:Nat):Int))=decide (0 < a + b):=decide_eq_decide.2 (by omega)
 simp -dsimp -implicitDefEqProofs only [↓STP,STQ,seval,KV_eq,e]
 exact hK
end
end YtemlhjlceeiflaaDoor
end Go.Ab
namespace Go.Ab
end Go.Ab
namespace Go.Ab.YtemlhjlceeiflaaDoor
section
variable {h:H} {K:Out→H→Prop}
theorem of31 (e:Exp):∀ (lv:Nat) (h:H) (K:Out→H→Prop),VE e lv→EOk e→K (.ret (KV (constE e))) h→R 27 [e.v] h K:=by
 induction e using Exp.ind with
 | h k o n s ks ih =>
  intro lv h K hv ok hK
  obtain ⟨v1,v2,v3,v4,v5,v6,v7,v8,v9⟩:=VE_mk.1 hv
  obtain ⟨hk,ho,hn,hs,hl,hks⟩:=EOk_mk ok
  have hm:=maxLen_eq
  refine run27 (Nat.le_of_ble_eq_true rfl) ?_
  simp -dsimp -implicitDefEqProofs only [↓STP,STQ,seval,Exp.v_mk,ir27,List.length_map]
  refine codeT_for (N:=ks.length) (fun i=>⟨upd (upd (upd (upd (upd (upd ρ0 1 (.lptr 0 5 0)) 2 (.lptr 1 2 0)) 3 (.vec ((ks.take i).map fun x=>KV (constE x)) (.own 2))) 9 (.vec (ks.map Exp.v) .any)) 10 (I ks.length)) 11 (I i),
   upd (upd m0 0 (some [I k,I o,W n,.str s,.vec (ks.map Exp.v) .any])) 1 (some [W 0,I 0]),3,[],h⟩) (fun i=>(ks.take i).any (fun x=>decide ((constE x).2=0))=false) (by simp -dsimp -implicitDefEqProofs only [↓STP,STQ,seval] <;> rfl) (by simp) (fun i hi hp=>?_) (fun hp=>?_) mono
  ·have hget:=get_map (f:=Exp.v) hi
   have hx:=ih _ (List.getElem_mem hi) (lv + 1) h
   have hvx:=v9 _ (List.getElem_mem hi)
   have okx:=hks _ (List.getElem_mem hi)
   have w1:=wiM (show i < 9223372036854775807 by omega)
   have htk:ks.take (i + 1)=ks.take i ++ [ks[i]]:=by rw [List.take_add_one,List.getElem?_eq_getElem hi]; rfl
   have hmem:ks[i] ∈ ks:=List.getElem_mem hi
   have hi0:i < 4294967296:=by
    have:=kidsN_cases v2
    unfold kidsN at v2
    split at v2 <;> try split at v2 <;> try split at v2 <;> try split at v2
    all_goals omega
   rw [htk]
   generalize ks[i]=x at *
   simp -dsimp -implicitDefEqProofs only [↓STP,STQ,seval,Int.ofNat_lt,hi,hget,storeE,Exp.v_outs,Exp.v_clen,Exp.v_tk,Exp.v_ag,Exp.v_out,eq_self]
   refine hx _ hvx okx ?_
   by_cases c:(constE x).2=0
   ·simp -dsimp -implicitDefEqProofs only [↓STP,STQ,seval,KV_eq,storeV,eq_true c]
    have e:constE (.mk k o n s ks)=(0,0):=by
     rw [constE_mk]
     unfold constOf
     rw [if_pos]
     rw [List.any_map,List.any_eq_true]
     exact ⟨x,hmem,by simpa using c⟩
    rw [e] at hK
    exact hK
   ·simp -dsimp -implicitDefEqProofs only [↓STP,STQ,seval,KV_eq,storeV,eq_false c]
    rw [app1_own (sz:=2) (by simp) (by intro e he; obtain ⟨y,_,rfl⟩:=List.mem_map.1 he; rfl) rfl (by decide) (by decide) (by rw [List.length_map,List.length_take]; omega)]
    simp -dsimp -implicitDefEqProofs only [↓STP,STQ,seval,w1,List.map_append,eq_self]
    refine ⟨rfl,?_⟩
    simpa [hp] using c
  ·rw [List.take_length] at *
   have ha:(ks.map constE).any (fun x=>decide (x.2=0))=false:=by rw [List.any_map]; exact hp
   have ce:constE (.mk k o n s ks)=if k=1 then (n,1) else if k=4 then opOf o (nthC (ks.map constE) 0) (nthC (ks.map constE) 1)
     else if k=5 then (if (nthC (ks.map constE) 0).2=2 then truK (decide ((nthC (ks.map constE) 0).1=0)) else (0,0))
     else if k=6 then (if (nthC (ks.map constE) 0).2=2∧(nthC (ks.map constE) 1).2=(nthC (ks.map constE) 2).2 then (if (nthC (ks.map constE) 0).1=1 then nthC (ks.map constE) 1 else nthC (ks.map constE) 2) else (0,0))
     else (0,0):=by
    rw [constE_mk,constOf,ha]; rfl
   rw [ce] at hK
   have ck:∀ x ∈ ks,CK (constE x):=fun x hx=>ck_const x _ (v9 x hx)
   rcases kidsN_cases v2 with rfl | rfl | rfl | rfl | rfl | rfl
   ·simp -dsimp -implicitDefEqProofs only [↓STP,STQ,seval,List.length_map,Int.lt_irrefl,storeV]
    exact hK
   ·simp -dsimp -implicitDefEqProofs only [↓STP,STQ,seval,List.length_map,Int.lt_irrefl,storeV]
    exact hK
   ·simp -dsimp -implicitDefEqProofs only [↓STP,STQ,seval,List.length_map,Int.lt_irrefl,storeV]
    exact hK
   ·obtain ⟨a,b,rfl⟩:=len2 (show ks.length=2 by have:kidsN 4=2:=rfl; omega)
    have hK:K (.ret (KV (opOf o (constE a) (constE b)))) h:=hK
    have ca:=ck a (by simp)
    have cb:=ck b (by simp)
    obtain ⟨o1,o2⟩:=v5 rfl
    have oo:o=1∨o=2∨o=3∨o=4∨o=5∨o=6∨o=7:=by omega
    rcases oo with rfl | rfl | rfl | rfl | rfl | rfl | rfl
    ·simp -dsimp -implicitDefEqProofs only [↓STP,STQ,seval,List.length_map,Int.lt_irrefl,storeV,KV_eq]
     refine operations31 ?_
     by_cases c1:(constE a).2=1
     rotate_left
     ·simp -dsimp -implicitDefEqProofs only [↓STP,STQ,seval,opTab,storeV,eq_false c1]
      rw [show opOf 1 (constE a) (constE b)=(0,0) from if_neg fun h=>c1 h.1] at hK
      exact hK
     by_cases c2:(constE b).2=1
     rotate_left
     ·simp -dsimp -implicitDefEqProofs only [↓STP,STQ,seval,opTab,storeV,eq_true c1,eq_false c2]
      rw [show opOf 1 (constE a) (constE b)=(0,0) from if_neg fun h=>c2 h.2] at hK
      exact hK
     simp -dsimp -implicitDefEqProofs only [↓STP,STQ,seval,opTab,storeV,eq_true c1,eq_true c2,opT_callF,withF_func]
     refine do1 (by rcases ca with ca | ca | ca <;> omega) (by rcases cb with cb | cb | cb <;> omega) ?_
     simp -dsimp -implicitDefEqProofs only [↓STP,STQ,seval,KV_eq,storeV]
     rw [show opOf 1 (constE a) (constE b)=opDo 1 (constE a).1 (constE b).1 from if_pos ⟨c1,c2⟩] at hK
     exact hK
    ·simp -dsimp -implicitDefEqProofs only [↓STP,STQ,seval,List.length_map,Int.lt_irrefl,storeV,KV_eq]
     refine operations31 ?_
     by_cases c1:(constE a).2=1
     rotate_left
     ·simp -dsimp -implicitDefEqProofs only [↓STP,STQ,seval,opTab,storeV,eq_false c1]
      rw [show opOf 2 (constE a) (constE b)=(0,0) from if_neg fun h=>c1 h.1] at hK
      exact hK
     by_cases c2:(constE b).2=1
     rotate_left
     ·simp -dsimp -implicitDefEqProofs only [↓STP,STQ,seval,opTab,storeV,eq_true c1,eq_false c2]
      rw [show opOf 2 (constE a) (constE b)=(0,0) from if_neg fun h=>c2 h.2] at hK
      exact hK
     simp -dsimp -implicitDefEqProofs only [↓STP,STQ,seval,opTab,storeV,eq_true c1,eq_true c2,opT_callF,withF_func]
     refine do2 (by rcases ca with ca | ca | ca <;> omega) (by rcases cb with cb | cb | cb <;> omega) ?_
     simp -dsimp -implicitDefEqProofs only [↓STP,STQ,seval,KV_eq,storeV]
     rw [show opOf 2 (constE a) (constE b)=opDo 2 (constE a).1 (constE b).1 from if_pos ⟨c1,c2⟩] at hK
     exact hK
    ·simp -dsimp -implicitDefEqProofs only [↓STP,STQ,seval,List.length_map,Int.lt_irrefl,storeV,KV_eq]
     refine operations31 ?_
     by_cases c1:(constE a).2=1
     rotate_left
     ·simp -dsimp -implicitDefEqProofs only [↓STP,STQ,seval,opTab,storeV,eq_false c1]
      rw [show opOf 3 (constE a) (constE b)=(0,0) from if_neg fun h=>c1 h.1] at hK
      exact hK
     by_cases c2:(constE b).2=1
     rotate_left
     ·simp -dsimp -implicitDefEqProofs only [↓STP,STQ,seval,opTab,storeV,eq_true c1,eq_false c2]
      rw [show opOf 3 (constE a) (constE b)=(0,0) from if_neg fun h=>c2 h.2] at hK
      exact hK
     simp -dsimp -implicitDefEqProofs only [↓STP,STQ,seval,opTab,storeV,eq_true c1,eq_true c2,opT_callF,withF_func]
     refine do3 (by rcases ca with ca | ca | ca <;> omega) (by rcases cb with cb | cb | cb <;> omega) ?_
     simp -dsimp -implicitDefEqProofs only [↓STP,STQ,seval,KV_eq,storeV]
     rw [show opOf 3 (constE a) (constE b)=opDo 3 (constE a).1 (constE b).1 from if_pos ⟨c1,c2⟩] at hK
     exact hK
    ·simp -dsimp -implicitDefEqProofs only [↓STP,STQ,seval,List.length_map,Int.lt_irrefl,storeV,KV_eq]
     refine operations31 ?_
     by_cases c1:(constE a).2=1
     rotate_left
     ·simp -dsimp -implicitDefEqProofs only [↓STP,STQ,seval,opTab,storeV,eq_false c1]
      rw [show opOf 4 (constE a) (constE b)=(0,0) from if_neg fun h=>c1 h.1] at hK
      exact hK
     by_cases c2:(constE b).2=1
     rotate_left
     ·simp -dsimp -implicitDefEqProofs only [↓STP,STQ,seval,opTab,storeV,eq_true c1,eq_false c2]
      rw [show opOf 4 (constE a) (constE b)=(0,0) from if_neg fun h=>c2 h.2] at hK
      exact hK
     simp -dsimp -implicitDefEqProofs only [↓STP,STQ,seval,opTab,storeV,eq_true c1,eq_true c2,opT_callF,withF_func]
     refine do4 ?_
     simp -dsimp -implicitDefEqProofs only [↓STP,STQ,seval,KV_eq,storeV]
     rw [show opOf 4 (constE a) (constE b)=opDo 4 (constE a).1 (constE b).1 from if_pos ⟨c1,c2⟩] at hK
     exact hK
    ·simp -dsimp -implicitDefEqProofs only [↓STP,STQ,seval,List.length_map,Int.lt_irrefl,storeV,KV_eq]
     refine operations31 ?_
     by_cases c1:(constE a).2=1
     rotate_left
     ·simp -dsimp -implicitDefEqProofs only [↓STP,STQ,seval,opTab,storeV,eq_false c1]
      rw [show opOf 5 (constE a) (constE b)=(0,0) from if_neg fun h=>c1 h.1] at hK
      exact hK
     by_cases c2:(constE b).2=1
     rotate_left
     ·simp -dsimp -implicitDefEqProofs only [↓STP,STQ,seval,opTab,storeV,eq_true c1,eq_false c2]
      rw [show opOf 5 (constE a) (constE b)=(0,0) from if_neg fun h=>c2 h.2] at hK
      exact hK
     simp -dsimp -implicitDefEqProofs only [↓STP,STQ,seval,opTab,storeV,eq_true c1,eq_true c2,opT_callF,withF_func]
     refine do5 ?_
     simp -dsimp -implicitDefEqProofs only [↓STP,STQ,seval,KV_eq,storeV]
     rw [show opOf 5 (constE a) (constE b)=opDo 5 (constE a).1 (constE b).1 from if_pos ⟨c1,c2⟩] at hK
     exact hK
    ·simp -dsimp -implicitDefEqProofs only [↓STP,STQ,seval,List.length_map,Int.lt_irrefl,storeV,KV_eq]
     refine operations31 ?_
     by_cases c1:(constE a).2=2
     rotate_left
     ·simp -dsimp -implicitDefEqProofs only [↓STP,STQ,seval,opTab,storeV,eq_false c1]
      rw [show opOf 6 (constE a) (constE b)=(0,0) from if_neg fun h=>c1 h.1] at hK
      exact hK
     by_cases c2:(constE b).2=2
     rotate_left
     ·simp -dsimp -implicitDefEqProofs only [↓STP,STQ,seval,opTab,storeV,eq_true c1,eq_false c2]
      rw [show opOf 6 (constE a) (constE b)=(0,0) from if_neg fun h=>c2 h.2] at hK
      exact hK
     simp -dsimp -implicitDefEqProofs only [↓STP,STQ,seval,opTab,storeV,eq_true c1,eq_true c2,opT_callF,withF_func]
     refine do6 (by rcases ca with ca | ca | ca <;> omega) (by rcases cb with cb | cb | cb <;> omega) ?_
     simp -dsimp -implicitDefEqProofs only [↓STP,STQ,seval,KV_eq,storeV]
     rw [show opOf 6 (constE a) (constE b)=opDo 6 (constE a).1 (constE b).1 from if_pos ⟨c1,c2⟩] at hK
     exact hK
    ·simp -dsimp -implicitDefEqProofs only [↓STP,STQ,seval,List.length_map,Int.lt_irrefl,storeV,KV_eq]
     refine operations31 ?_
     by_cases c1:(constE a).2=2
     rotate_left
     ·simp -dsimp -implicitDefEqProofs only [↓STP,STQ,seval,opTab,storeV,eq_false c1]
      rw [show opOf 7 (constE a) (constE b)=(0,0) from if_neg fun h=>c1 h.1] at hK
      exact hK
     by_cases c2:(constE b).2=2
     rotate_left
     ·simp -dsimp -implicitDefEqProofs only [↓STP,STQ,seval,opTab,storeV,eq_true c1,eq_false c2]
      rw [show opOf 7 (constE a) (constE b)=(0,0) from if_neg fun h=>c2 h.2] at hK
      exact hK
     simp -dsimp -implicitDefEqProofs only [↓STP,STQ,seval,opTab,storeV,eq_true c1,eq_true c2,opT_callF,withF_func]
     refine do7 (by rcases ca with ca | ca | ca <;> omega) (by rcases cb with cb | cb | cb <;> omega) ?_
     simp -dsimp -implicitDefEqProofs only [↓STP,STQ,seval,KV_eq,storeV]
     rw [show opOf 7 (constE a) (constE b)=opDo 7 (constE a).1 (constE b).1 from if_pos ⟨c1,c2⟩] at hK
     exact hK
   ·obtain ⟨a,rfl⟩:=len1 (show ks.length=1 by have:kidsN 5=1:=rfl; omega)
    have hK:K (.ret (KV (if (constE a).2=2 then truK (decide ((constE a).1=0)) else (0,0)))) h:=hK
    by_cases c:(constE a).2=2
    ·simp -dsimp -implicitDefEqProofs only [↓STP,STQ,seval,List.length_map,Int.lt_irrefl,storeV,KV_eq,eq_true c]
     refine truth31 ?_
     rw [if_pos c] at hK
     have e:decide (((constE a).1:Int)=0)=decide ((constE a).1=0):=decide_eq_decide.2 (by omega)
     simp -dsimp -implicitDefEqProofs only [↓STP,STQ,seval,KV_eq,storeV,e]
     exact hK
    ·simp -dsimp -implicitDefEqProofs only [↓STP,STQ,seval,List.length_map,Int.lt_irrefl,storeV,KV_eq,eq_false c]
     rw [if_neg c] at hK
     exact hK
   ·obtain ⟨a,b,c,rfl⟩:=len3 (show ks.length=3 by have:kidsN 6=3:=rfl; omega)
    have hK:K (.ret (KV (if (constE a).2=2∧(constE b).2=(constE c).2 then (if (constE a).1=1 then constE b else constE c) else (0,0)))) h:=hK
    have ca:=ck a (by simp)
    by_cases c1:(constE a).2=2
    rotate_left
    ·simp -dsimp -implicitDefEqProofs only [↓STP,STQ,seval,List.length_map,Int.lt_irrefl,storeV,KV_eq,eq_false c1]
     rw [if_neg fun h=>c1 h.1] at hK
     exact hK
    by_cases c2:(constE b).2=(constE c).2
    rotate_left
    ·simp -dsimp -implicitDefEqProofs only [↓STP,STQ,seval,List.length_map,Int.lt_irrefl,storeV,KV_eq,eq_true c1,eq_false c2]
     rw [if_neg fun h=>c2 h.2] at hK
     exact hK
    rw [if_pos ⟨c1,c2⟩] at hK
    have cc:(constE a).1=0∨(constE a).1=1:=by rcases ca with ca | ca | ca <;> omega
    rcases cc with cc | cc
    ·simp -dsimp -implicitDefEqProofs only [↓STP,STQ,seval,List.length_map,Int.lt_irrefl,storeV,KV_eq,eq_true c1,eq_true c2,cc]
     rw [if_neg (by omega)] at hK
     exact hK
    ·simp -dsimp -implicitDefEqProofs only [↓STP,STQ,seval,List.length_map,Int.lt_irrefl,storeV,KV_eq,eq_true c1,eq_true c2,cc]
     rw [if_pos cc] at hK
     exact hK
end
end Go.Ab.YtemlhjlceeiflaaDoor
namespace Go.Ab
end Go.Ab
namespace Go.Ab.YtemlhjlceeiflaaDoor
section
variable {h:H} {K:Out→H→Prop}
end
end Go.Ab.YtemlhjlceeiflaaDoor
namespace Go.Ab
def numE (n:Nat):Exp:=.mk 1 0 n noName []
def nthE (l:List Exp) (i:Nat):Exp:=l.getD i (numE 0)
def foldTop (k o:Int) (n:Nat) (s:ByteArray) (ks:List Exp):Exp:=
 if (constE (.mk k o n s ks)).2=1 then numE (constE (.mk k o n s ks)).1
 else if k=6∧(constE (nthE ks 0)).2=2 then (if (constE (nthE ks 0)).1=1 then nthE ks 1 else nthE ks 2)
 else .mk k o n s ks
mutual
def foldE:Exp→Exp
 | .mk k o n s ks=>foldTop k o n s (foldEs ks)
def foldEs:List Exp→List Exp
 | []=>[]
 | e :: es=>foldE e :: foldEs es
end
theorem foldEs_map:∀ l:List Exp,foldEs l=l.map foldE
 | []=>rfl
 | e :: es=>by rw [foldEs,foldEs_map es]; rfl
theorem foldE_mk {k o:Int} {n:Nat} {s:ByteArray} {ks:List Exp}:foldE (.mk k o n s ks)=foldTop k o n s (ks.map foldE):=by rw [foldE,foldEs_map]
def foldStm (k:Int) (s:ByteArray) (e:List Exp) (a b:List Stm):List Stm:=
 if k=3∧(constE (nthE e 0)).2=2 then (if (constE (nthE e 0)).1=1 then a else b)
 else if k=4∧((constE (nthE e 0)).2=1∧(constE (nthE e 1)).2=1∧(constE (nthE e 1)).1 < (constE (nthE e 0)).1) then []
 else [.mk k s e a b]
mutual
def foldS:Stm→List Stm
 | .mk k s e a b=>foldStm k s (e.map foldE) (foldSs a) (foldSs b)
def foldSs:List Stm→List Stm
 | []=>[]
 | x :: xs=>foldS x ++ foldSs xs
end
theorem foldS_mk {k:Int} {s:ByteArray} {e:List Exp} {a b:List Stm}:foldS (.mk k s e a b)=foldStm k s (e.map foldE) (foldSs a) (foldSs b):=by rw [foldS]
theorem foldSs_append:∀ a b:List Stm,foldSs (a ++ b)=foldSs a ++ foldSs b
 | [],b=>by rw [List.nil_append,foldSs,List.nil_append]
 | x :: a,b=>by rw [List.cons_append,foldSs,foldSs,foldSs_append a b,List.append_assoc]
theorem foldSs_take {l:List Stm} {i:Nat} (hi:i < l.length):foldSs (l.take (i + 1))=foldSs (l.take i) ++ foldS l[i]:=by
 rw [List.take_add_one,List.getElem?_eq_getElem hi,foldSs_append]
 simp [foldSs]
theorem foldSs_flat:∀ l:List Stm,foldSs l=l.flatMap foldS
 | []=>rfl
 | x :: l=>by rw [foldSs,foldSs_flat l,List.flatMap_cons]
def Prg.fold (p:Prg):Prg:=⟨p.ins,p.arrays,foldSs p.body⟩
theorem VE_mono (e:Exp):∀ lv lv',VE e lv→lv' ≤ lv→VE e lv':=by
 induction e using Exp.ind with
 | h k o n s ks ih =>
  intro lv lv' hv hl
  obtain ⟨v1,v2,v3,v4,v5,v6,v7,v8,v9⟩:=VE_mk.1 hv
  exact VE_mk.2 ⟨by omega,v2,v3,v4,v5,v6,v7,v8,fun x hx=>ih x hx _ _ (v9 x hx) (by omega)⟩
theorem VS_mono (x:Stm):∀ lv lv',VS x lv→lv' ≤ lv→VS x lv':=by
 induction x using Stm.ind with
 | h k s e a b iha ihb =>
  intro lv lv' hv hl
  obtain ⟨v1,v2,v3,v4,v5,v6,v7,v8,v9,v10,v11⟩:=VS_mk.1 hv
  exact VS_mk.2 ⟨by omega,v2,v3,v4,v5,v6,v7,v8,fun x hx=>VE_mono x _ _ (v9 x hx) (by omega),
   VSs_all.2 fun x hx=>iha x hx _ _ (VSs_all.1 v10 x hx) (by omega),VSs_all.2 fun x hx=>ihb x hx _ _ (VSs_all.1 v11 x hx) (by omega)⟩
theorem VSs_mono {l:List Stm} {lv lv':Nat} (h:VSs l lv) (hl:lv' ≤ lv):VSs l lv':=VSs_all.2 fun x hx=>VS_mono x _ _ (VSs_all.1 h x hx) hl
theorem nthE_mem {l:List Exp} {i:Nat} (h:i < l.length):nthE l i ∈ l:=by
 unfold nthE
 rw [List.getD_eq_getElem?_getD,List.getElem?_eq_getElem h]
 exact List.getElem_mem h
theorem VE_num {n lv:Nat} (hn:n < 1152921504606846976) (hl:lv ≤ 24):VE (numE n) lv:=
 VE_mk.2 ⟨hl,rfl,fun h=>by omega,fun _=>rfl,fun h=>by omega,fun _=>rfl,by omega,fun h=>absurd rfl h,by simp⟩
theorem VE_top {k o:Int} {n:Nat} {s:ByteArray} {ks:List Exp} {lv:Nat} (hv:VE (.mk k o n s ks) lv):VE (foldTop k o n s ks) lv:=by
 obtain ⟨v1,v2,v3,v4,v5,v6,v7,v8,v9⟩:=VE_mk.1 hv
 unfold foldTop
 split
 ·rename_i hc
  have:=ck_const _ _ hv
  exact VE_num (by rcases this with c | c | c <;> omega) v1
 ·split
  ·rename_i hk
   have hl:ks.length=3:=by
    have:=hk.1
    subst this
    have:kidsN 6=3:=rfl
    omega
   split
   ·exact VE_mono _ _ _ (v9 _ (nthE_mem (by omega))) (by omega)
   ·exact VE_mono _ _ _ (v9 _ (nthE_mem (by omega))) (by omega)
  ·exact hv
theorem VE_kids {k o:Int} {n:Nat} {s:ByteArray} {ks:List Exp} {lv:Nat} {f:Exp→Exp} (hv:VE (.mk k o n s ks) lv) (hf:∀ x ∈ ks,VE (f x) (lv + 1)):VE (.mk k o n s (ks.map f)) lv:=by
 obtain ⟨v1,v2,v3,v4,v5,v6,v7,v8,v9⟩:=VE_mk.1 hv
 refine VE_mk.2 ⟨v1,by rw [List.length_map]; exact v2,v3,v4,v5,v6,v7,v8,fun x hx=>?_⟩
 obtain ⟨y,hy,rfl⟩:=List.mem_map.1 hx
 exact hf y hy
theorem VE_fold (e:Exp):∀ lv,VE e lv→VE (foldE e) lv:=by
 induction e using Exp.ind with
 | h k o n s ks ih =>
  intro lv hv
  obtain ⟨v1,v2,v3,v4,v5,v6,v7,v8,v9⟩:=VE_mk.1 hv
  rw [foldE_mk]
  exact VE_top (VE_kids hv fun x hx=>ih x hx _ (v9 x hx))
theorem VS_stm {k:Int} {s:ByteArray} {e:List Exp} {a b:List Stm} {lv:Nat} (hv:VS (.mk k s e a b) lv):VSs (foldStm k s e a b) lv:=by
 obtain ⟨v1,v2,v3,v4,v5,v6,v7,v8,v9,v10,v11⟩:=VS_mk.1 hv
 unfold foldStm
 split
 ·split
  ·exact VSs_mono v10 (by omega)
  ·exact VSs_mono v11 (by omega)
 ·split
  ·exact VSs_all.2 (by simp)
  ·exact VSs_all.2 (by simpa using hv)
theorem VSs_of {l:List Stm} {lv:Nat} (h:∀ x ∈ l,VSs (foldS x) lv):VSs (foldSs l) lv:=by
 rw [foldSs_flat]
 refine VSs_all.2 fun x hx=>?_
 obtain ⟨y,hy,hx⟩:=List.mem_flatMap.1 hx
 exact VSs_all.1 (h y hy) x hx
theorem foldSs_nil {l:List Stm} (h:l=[]):foldSs l=[]:=by subst h; rfl
theorem VS_parts {k:Int} {s:ByteArray} {e:List Exp} {a b:List Stm} {lv:Nat} (hv:VS (.mk k s e a b) lv) (ha:VSs (foldSs a) (lv + 1)) (hb:VSs (foldSs b) (lv + 1)):VS (.mk k s (e.map foldE) (foldSs a) (foldSs b)) lv:=by
 obtain ⟨v1,v2,v3,v4,v5,v6,v7,v8,v9,v10,v11⟩:=VS_mk.1 hv
 refine VS_mk.2 ⟨v1,v2,v3,by rw [List.length_map]; exact v4,v5,v6,fun h=>foldSs_nil (v7 h),fun h h'=>foldSs_nil (v8 h h'),fun x hx=>?_,ha,hb⟩
 obtain ⟨y,hy,rfl⟩:=List.mem_map.1 hx
 exact VE_fold y _ (v9 y hy)
theorem VS_fold (x:Stm):∀ lv,VS x lv→VSs (foldS x) lv:=by
 induction x using Stm.ind with
 | h k s e a b iha ihb =>
  intro lv hv
  obtain ⟨v1,v2,v3,v4,v5,v6,v7,v8,v9,v10,v11⟩:=VS_mk.1 hv
  rw [foldS_mk]
  exact VS_stm (VS_parts hv (VSs_of fun x hx=>iha x hx _ (VSs_all.1 v10 x hx)) (VSs_of fun x hx=>ihb x hx _ (VSs_all.1 v11 x hx)))
theorem VSs_fold {l:List Stm} {lv:Nat} (h:VSs l lv):VSs (foldSs l) lv:=VSs_of fun x hx=>VS_fold x _ (VSs_all.1 h x hx)
theorem bulks_mem:∀ {l:List Exp} {x:Exp},x ∈ l→x.v.bulk ≤ V.bulks (l.map Exp.v)
 | y :: l,x,h=>by
  rw [List.map_cons,V.bulks]
  rcases List.mem_cons.1 h with rfl | h
  ·omega
  ·have:=bulks_mem h; omega
theorem bulk_num {n:Nat}:(numE n).v.bulk=6:=by
 rw [numE,exp_bulk]; rfl
theorem bulk_map {f:Exp→Exp}:∀ {l:List Exp},(∀ x ∈ l,(f x).v.bulk ≤ x.v.bulk)→V.bulks ((l.map f).map Exp.v) ≤ V.bulks (l.map Exp.v)
 | [],_=>Nat.le_refl _
 | x :: l,h=>by
  rw [List.map_cons,List.map_cons,List.map_cons,V.bulks,V.bulks]
  have h1:=h x (by simp)
  have h2:=bulk_map (l:=l) fun y hy=>h y (by simp [hy])
  omega
theorem nthE_bulk {l:List Exp} {i:Nat}:(nthE l i).v.bulk ≤ 6 + V.bulks (l.map Exp.v):=by
 by_cases h:i < l.length
 ·have:=bulks_mem (nthE_mem h); omega
 ·have e:nthE l i=numE 0:=by
   unfold nthE
   rw [List.getD_eq_getElem?_getD,List.getElem?_eq_none (by omega)]; rfl
  rw [e,bulk_num]; omega
theorem bulk_foldE (e:Exp):(foldE e).v.bulk ≤ e.v.bulk:=by
 induction e using Exp.ind with
 | h k o n s ks ih =>
  have h1:=bulk_map ih
  rw [foldE_mk,exp_bulk]
  unfold foldTop
  split
  ·rw [bulk_num]; omega
  ·split
   ·split
    ·have:=nthE_bulk (l:=ks.map foldE) (i:=1); omega
    ·have:=nthE_bulk (l:=ks.map foldE) (i:=2); omega
   ·rw [exp_bulk]; omega
theorem bulk_of:∀ {l:List Stm},(∀ x ∈ l,V.bulks ((foldS x).map Stm.v) ≤ x.v.bulk)→V.bulks ((foldSs l).map Stm.v) ≤ V.bulks (l.map Stm.v)
 | [],_=>Nat.le_refl _
 | x :: l,h=>by
  rw [foldSs,List.map_append,bulks_append,List.map_cons,V.bulks]
  have h1:=h x (by simp)
  have h2:=bulk_of (l:=l) fun y hy=>h y (by simp [hy])
  omega
theorem bulk_foldS (x:Stm):V.bulks ((foldS x).map Stm.v) ≤ x.v.bulk:=by
 induction x using Stm.ind with
 | h k s e a b iha ihb =>
  have h1:=bulk_of iha
  have h2:=bulk_of ihb
  have h3:=bulk_map (l:=e) (f:=foldE) fun x _=>bulk_foldE x
  rw [foldS_mk,stm_bulk]
  unfold foldStm
  split
  ·split <;> omega
  ·split
   ·exact Nat.zero_le _
   ·rw [List.map_cons,List.map_nil,bulks_one,stm_bulk]; omega
theorem bulk_foldSs {l:List Stm}:V.bulks ((foldSs l).map Stm.v) ≤ V.bulks (l.map Stm.v):=bulk_of fun x _=>bulk_foldS x
theorem stm_six (x:Stm):6 ≤ x.v.bulk:=by
 obtain ⟨k,s,e,a,b⟩:=x
 rw [stm_bulk]; omega
theorem stms_len:∀ {l:List Stm},l.length ≤ V.bulks (l.map Stm.v)
 | []=>Nat.le_refl _
 | x :: l=>by
  rw [List.map_cons,V.bulks,List.length_cons]
  have:=stm_six x
  have:=stms_len (l:=l)
  omega
theorem EOk_top {k o:Int} {n:Nat} {s:ByteArray} {ks:List Exp} {lv:Nat} (hv:VE (.mk k o n s ks) lv) (ok:EOk (.mk k o n s ks)):EOk (foldTop k o n s ks):=by
 obtain ⟨v1,v2,v3,v4,v5,v6,v7,v8,v9⟩:=VE_mk.1 hv
 obtain ⟨_,_,hn,_,_,hks⟩:=EOk_mk ok
 unfold foldTop
 split
 ·rename_i hc
  have:=ck_const _ _ hv
  exact .mk ⟨by decide,by decide⟩ ⟨by decide,by decide⟩ (by rcases this with c | c | c <;> omega) (by decide) (by simp) (by simp)
 ·split
  ·rename_i hk
   have hl:ks.length=3:=by
    have:=hk.1
    subst this
    have:kidsN 6=3:=rfl
    omega
   split
   ·exact hks _ (nthE_mem (by omega))
   ·exact hks _ (nthE_mem (by omega))
  ·exact ok
theorem EOk_kids {k o:Int} {n:Nat} {s:ByteArray} {ks:List Exp} {f:Exp→Exp} (ok:EOk (.mk k o n s ks)) (hf:∀ x ∈ ks,EOk (f x)):EOk (.mk k o n s (ks.map f)):=by
 obtain ⟨a1,a2,a3,a4,a5,a6⟩:=EOk_mk ok
 refine .mk a1 a2 a3 a4 (by rw [List.length_map]; exact a5) fun x hx=>?_
 obtain ⟨y,hy,rfl⟩:=List.mem_map.1 hx
 exact hf y hy
theorem EOk_fold (e:Exp):∀ lv,VE e lv→EOk e→EOk (foldE e):=by
 induction e using Exp.ind with
 | h k o n s ks ih =>
  intro lv hv ok
  obtain ⟨v1,v2,v3,v4,v5,v6,v7,v8,v9⟩:=VE_mk.1 hv
  obtain ⟨_,_,hn,_,_,hks⟩:=EOk_mk ok
  rw [foldE_mk]
  exact EOk_top (VE_kids hv fun x hx=>VE_fold x _ (v9 x hx)) (EOk_kids ok fun x hx=>ih x hx _ (v9 x hx) (hks x hx))
theorem SOk_of {l:List Stm} (h:∀ x ∈ l,∀ y ∈ foldS x,SOk y):∀ y ∈ foldSs l,SOk y:=by
 rw [foldSs_flat]
 intro y hy
 obtain ⟨x,hx,hy⟩:=List.mem_flatMap.1 hy
 exact h x hx y hy
theorem bulks_memS:∀ {l:List Stm} {x:Stm},x ∈ l→x.v.bulk ≤ V.bulks (l.map Stm.v)
 | y :: l,x,h=>by
  rw [List.map_cons,V.bulks]
  rcases List.mem_cons.1 h with rfl | h
  ·omega
  ·have:=bulks_memS h; omega
theorem SOk_parts {k:Int} {s:ByteArray} {e:List Exp} {a b:List Stm} {lv:Nat} (hv:VS (.mk k s e a b) lv) (ok:SOk (.mk k s e a b)) (hb:(Stm.mk k s e a b).v.bulk ≤ 20000000) (oka:∀ y ∈ foldSs a,SOk y) (okb:∀ y ∈ foldSs b,SOk y) :
  SOk (.mk k s (e.map foldE) (foldSs a) (foldSs b)):=by
 obtain ⟨v1,v2,v3,v4,v5,v6,v7,v8,v9,v10,v11⟩:=VS_mk.1 hv
 obtain ⟨hk,hs,hle,hla,hlb,oke,_,_⟩:=SOk_mk ok
 have hm:=maxLen_eq
 rw [stm_bulk] at hb
 have h1:=bulk_foldSs (l:=a)
 have h2:=bulk_foldSs (l:=b)
 have h3:=stms_len (l:=foldSs a)
 have h4:=stms_len (l:=foldSs b)
 refine .mk hk hs (by rw [List.length_map]; exact hle) (by omega) (by omega) (fun x hx=>?_) oka okb
 obtain ⟨y,hy,rfl⟩:=List.mem_map.1 hx
 exact EOk_fold y _ (v9 y hy) (oke y hy)
theorem SOk_fold (x:Stm):∀ lv,VS x lv→SOk x→x.v.bulk ≤ 20000000→∀ y ∈ foldS x,SOk y:=by
 induction x using Stm.ind with
 | h k s e a b iha ihb =>
  intro lv hv ok hb
  obtain ⟨v1,v2,v3,v4,v5,v6,v7,v8,v9,v10,v11⟩:=VS_mk.1 hv
  obtain ⟨hk,hs,hle,hla,hlb,oke,oka,okb⟩:=SOk_mk ok
  have hb2:=hb
  rw [stm_bulk] at hb2
  have ga:∀ y ∈ foldSs a,SOk y:=SOk_of fun x hx=>iha x hx _ (VSs_all.1 v10 x hx) (oka x hx) (by have:=bulks_memS hx; omega)
  have gb:∀ y ∈ foldSs b,SOk y:=SOk_of fun x hx=>ihb x hx _ (VSs_all.1 v11 x hx) (okb x hx) (by have:=bulks_memS hx; omega)
  rw [foldS_mk]
  unfold foldStm
  split
  ·split
   ·exact ga
   ·exact gb
  ·split
   ·simp
   ·simpa using SOk_parts hv ok hb ga gb
theorem POk_fold {p:Prg} (ok:POk p) (hv:VSs p.body 1) (hb:p.v.bulk ≤ 20000000):POk p.fold:=by
 have hm:=maxLen_eq
 have h1:=bulk_foldSs (l:=p.body)
 have h2:=stms_len (l:=foldSs p.body)
 rw [prg_bulk] at hb
 exact ⟨ok.ins,ok.arrays,SOk_of fun x hx=>SOk_fold x _ (VSs_all.1 hv x hx) (ok.body x hx) (by have:=bulks_memS hx; omega),ok.li,ok.la,by simp only [Prg.fold]; omega⟩
end Go.Ab
namespace Go.Ab
theorem store2 {st:S} {k:Nat} {a b:V}:storeV st (.lptr k 2 0) (.agg [a,b]) 2=some { st with m:=upd st.m k (some [a,b]) }:=rfl
theorem mapE_cells {l:List Exp} {f:Exp→Exp}:∀ e ∈ l.map (fun x=>(f x).v),e.cells.length=5:=by
 intro e he
 obtain ⟨x,_,rfl⟩:=List.mem_map.1 he
 exact Exp.v_clen
end Go.Ab
namespace Go.Ab.YtemlhjlceeiflaaDoor
section
variable {h:H} {K:Out→H→Prop}
def FE (f:FuncId) (e:Exp):Prop:=∀ (lv:Nat) (h:H) (K:Out→H→Prop),VE e lv→EOk e→K (.ret (foldE e).v) h→R f [e.v] h K
theorem exprsGF_of {l:List Exp} {lv:Nat} (hl:l.length ≤ 4) (ih:∀ x ∈ l,FE 89 x) (hv:∀ x ∈ l,VE x lv) (ok:∀ x ∈ l,EOk x) (hK:K (.ret (.vec ((l.map foldE).map Exp.v) .any)) h):R 60 [.vec (l.map Exp.v) .any] h K:=by
 refine run60 (Nat.le_of_ble_eq_true rfl) ?_
 simp -dsimp -implicitDefEqProofs only [↓STP,STQ,seval,ir60,List.length_map]
 refine codeT_for (N:=l.length) (fun i=>⟨upd (upd (upd (upd ρ0 3 (.vec ((l.take i).map fun x=>(foldE x).v) (.own 0))) 6 (.vec (l.map Exp.v) .any)) 7 (I l.length)) 8 (I i),m0,1,[],h⟩) (fun _=>True) (by simp -dsimp -implicitDefEqProofs only [↓STP,STQ,seval] <;> rfl) trivial (fun i hi _=>?_) (fun _=>?_) mono
 ·have hget:=get_map (f:=Exp.v) hi
  have hx:=ih _ (List.getElem_mem hi)
  have hvx:=hv _ (List.getElem_mem hi)
  have okx:=ok _ (List.getElem_mem hi)
  have w1:=wiM (show i < 9223372036854775807 by omega)
  have htk:l.take (i + 1)=l.take i ++ [l[i]]:=by rw [List.take_add_one,List.getElem?_eq_getElem hi]; rfl
  rw [htk]
  generalize l[i]=x at *
  simp -dsimp -implicitDefEqProofs only [↓STP,STQ,seval,Int.ofNat_lt,hi,hget,storeE,Exp.v_outs,Exp.v_clen,Exp.v_tk,Exp.v_ag,Exp.v_out,eq_self]
  refine hx _ _ _ hvx okx ?_
  obtain ⟨k,o,n,s,ks,hz⟩:∃ k o n s ks,foldE x=.mk k o n s ks:=by
   cases foldE x with
   | mk k o n s ks=>exact ⟨k,o,n,s,ks,rfl⟩
  simp -dsimp -implicitDefEqProofs only [↓STP,STQ,seval,hz,Exp.v_mk]
  rw [app1_own (sz:=5) (by simp) mapE_cells rfl (by decide) (by decide) (by rw [List.length_map,List.length_take]; omega)]
  simp -dsimp -implicitDefEqProofs only [↓STP,STQ,seval,w1,List.map_append,hz,Exp.v_mk]
 ·rw [List.take_length]
  simp -dsimp -implicitDefEqProofs only [↓STP,STQ,seval,Int.lt_irrefl]
  rw [List.map_map] at hK
  exact hK
theorem exprGF (e:Exp):FE 89 e:=by
 induction e using Exp.ind with
 | h k o n s ks ih =>
  intro lv h K hv ok hK
  obtain ⟨v1,v2,v3,v4,v5,v6,v7,v8,v9⟩:=VE_mk.1 hv
  obtain ⟨hk,ho,hn,hs,hl,hks⟩:=EOk_mk ok
  have hl4:ks.length ≤ 4:=by
   unfold kidsN at v2
   repeat' split at v2
   all_goals omega
  have hv':VE (.mk k o n s (ks.map foldE)) lv:=VE_kids hv fun x hx=>VE_fold x _ (v9 x hx)
  have ok':EOk (.mk k o n s (ks.map foldE)):=EOk_kids ok fun x hx=>EOk_fold x _ (v9 x hx) (hks x hx)
  rw [foldE_mk] at hK
  unfold foldTop at hK
  refine run89 (Nat.le_of_ble_eq_true rfl) ?_
  simp -dsimp -implicitDefEqProofs only [↓STP,STQ,seval,Exp.v_mk,ir89]
  refine exprsGF_of hl4 ih v9 hks ?_
  simp -dsimp -implicitDefEqProofs only [↓STP,STQ,seval,storeV]
  rw [← Exp.v_mk]
  refine of31 _ lv _ _ hv' ok' ?_
  by_cases c1:(constE (.mk k o n s (ks.map foldE))).2=1
  ·simp -dsimp -implicitDefEqProofs only [↓STP,STQ,seval,KV_eq,storeV,eq_true c1]
   rw [if_pos c1] at hK
   rw [numE,Exp.v_mk] at hK
   exact hK
  ·rw [if_neg c1] at hK
   by_cases c6:k=6
   rotate_left
   ·simp -dsimp -implicitDefEqProofs only [↓STP,STQ,seval,KV_eq,storeV,eq_false c1,eq_false c6]
    rw [if_neg fun h=>c6 h.1] at hK
    rw [Exp.v_mk] at hK
    exact hK
   subst c6
   obtain ⟨a,b,c,rfl⟩:=len3 (show ks.length=3 by have:kidsN 6=3:=rfl; omega)
   obtain ⟨_,_,_,_,_,_,_,_,v9'⟩:=VE_mk.1 hv'
   obtain ⟨_,_,_,_,_,hks'⟩:=EOk_mk ok'
   have hK:K (.ret (if (6:Int)=6∧(constE (foldE a)).2=2 then (if (constE (foldE a)).1=1 then foldE b else foldE c) else .mk 6 o n s [foldE a,foldE b,foldE c]).v) h:=hK
   have da:foldE a ∈ [a,b,c].map foldE:=by simp
   have c1:¬ (constE (.mk 6 o n s [foldE a,foldE b,foldE c])).2=1:=c1
   simp -dsimp -implicitDefEqProofs only [↓STP,STQ,seval,KV_eq,storeV,eq_false c1,Exp.v_outs,Exp.v_clen,Exp.v_tk,Exp.v_ag,Exp.v_out]
   refine of31 _ (lv + 1) _ _ (v9' _ da) (hks' _ da) ?_
   have ca:=ck_const _ _ (v9' _ da)
   by_cases c2:(constE (foldE a)).2=2
   rotate_left
   ·simp -dsimp -implicitDefEqProofs only [↓STP,STQ,seval,KV_eq,storeV,eq_false c2]
    rw [if_neg fun h=>c2 h.2,Exp.v_mk] at hK
    exact hK
   rw [if_pos ⟨rfl,c2⟩] at hK
   have na:(constE (foldE a)).1=0∨(constE (foldE a)).1=1:=by rcases ca with ca | ca | ca <;> omega
   have uw1:IntKind.u64.wrap 1=1:=rfl
   have uw2:IntKind.u64.wrap 2=2:=rfl
   rcases na with na | na
   ·simp -dsimp -implicitDefEqProofs only [↓STP,STQ,seval,KV_eq,store2,storeE,eq_true c2,na,uw1,uw2,Exp.v_outs,Exp.v_clen,Exp.v_tk,Exp.v_ag,Exp.v_out]
    rw [if_neg (by omega)] at hK
    rw [Exp.v_eq (foldE c)]
    show withV (V.out (.agg (foldE c).cells)) _ _
    rw [← Exp.v_eq,Exp.v_out]
    exact hK
   ·simp -dsimp -implicitDefEqProofs only [↓STP,STQ,seval,KV_eq,store2,storeE,eq_true c2,na,uw1,uw2,Exp.v_outs,Exp.v_clen,Exp.v_tk,Exp.v_ag,Exp.v_out]
    rw [if_pos na] at hK
    rw [Exp.v_eq (foldE b)]
    show withV (V.out (.agg (foldE b).cells)) _ _
    rw [← Exp.v_eq,Exp.v_out]
    exact hK
end
end Go.Ab.YtemlhjlceeiflaaDoor
namespace Go.Ab
theorem mapS_cells {l:List Stm}:∀ e ∈ l.map Stm.v,e.cells.length=5:=by
 intro e he
 obtain ⟨x,_,rfl⟩:=List.mem_map.1 he
 exact Stm.v_clen
theorem mapS_elems {l:List Stm}:∀ e ∈ l.map Stm.v,e.cells.length=5∧mkEl true e.cells=e:=by
 intro e he
 obtain ⟨x,_,rfl⟩:=List.mem_map.1 he
 exact ⟨Stm.v_clen,Stm.v_ag⟩
theorem bulks_takeS {l:List Stm} {i:Nat}:V.bulks ((l.take i).map Stm.v) ≤ V.bulks (l.map Stm.v):=by
 have:V.bulks (l.map Stm.v)=V.bulks ((l.take i).map Stm.v) + V.bulks ((l.drop i).map Stm.v):=by rw [← bulks_append,← List.map_append,List.take_append_drop]
 omega
theorem fold_len {l:List Stm} {i:Nat} (hi:i < l.length) (hb:V.bulks (l.map Stm.v) ≤ 20000000):(foldSs (l.take i)).length + (foldS l[i]).length ≤ 20000000:=by
 have h1:(foldSs (l.take (i + 1))).length=(foldSs (l.take i)).length + (foldS l[i]).length:=by rw [foldSs_take hi,List.length_append]
 have h2:=stms_len (l:=foldSs (l.take (i + 1)))
 have h3:=bulk_foldSs (l:=l.take (i + 1))
 have h4:=bulks_takeS (l:=l) (i:=i + 1)
 omega
end Go.Ab
namespace Go.Ab.YtemlhjlceeiflaaDoor
section
variable {h:H} {K:Out→H→Prop}
theorem neverG {a b:Exp} {s:ByteArray} {t f:List Stm} {lv:Nat} (va:VE a lv) (vb:VE b lv) (oka:EOk a) (okb:EOk b) (hK:K (.ret (.bool (decide ((constE a).2=1∧(constE b).2=1∧(constE b).1 < (constE a).1)))) h) :
  R 61 [(Stm.mk 4 s [a,b] t f).v] h K:=by
 refine run61 (Nat.le_of_ble_eq_true rfl) ?_
 simp -dsimp -implicitDefEqProofs only [↓STP,STQ,seval,Stm.v_mk,ir61,Exp.v_outs,Exp.v_clen,Exp.v_tk,Exp.v_ag,Exp.v_out]
 refine of31 _ lv _ _ va oka ?_
 simp -dsimp -implicitDefEqProofs only [↓STP,STQ,seval,KV_eq,store2,Exp.v_outs,Exp.v_clen,Exp.v_tk,Exp.v_ag,Exp.v_out]
 refine of31 _ lv _ _ vb okb ?_
 by_cases c1:(constE a).2=1
 rotate_left
 ·simp -dsimp -implicitDefEqProofs only [↓STP,STQ,seval,KV_eq,store2,eq_false c1,eq_self]
  rw [decide_eq_false fun h=>c1 h.1] at hK
  exact hK
 by_cases c2:(constE b).2=1
 rotate_left
 ·simp -dsimp -implicitDefEqProofs only [↓STP,STQ,seval,KV_eq,store2,eq_true c1,eq_false c2,eq_self]
  rw [decide_eq_false fun h=>c2 h.2.1] at hK
  exact hK
 simp -dsimp -implicitDefEqProofs only [↓STP,STQ,seval,KV_eq,store2,eq_true c1,eq_true c2,Int.ofNat_lt,eq_self]
 have e:decide ((constE a).2=1∧(constE b).2=1∧(constE b).1 < (constE a).1)=decide ((constE b).1 < (constE a).1):=decide_eq_decide.2 ⟨fun h=>h.2.2,fun h=>⟨c1,c2,h⟩⟩
 rw [e] at hK
 exact hK
def FS (f:FuncId) (x:Stm):Prop:=∀ (lv:Nat) (h:H) (K:Out→H→Prop),VS x lv→SOk x→x.v.bulk ≤ 20000000→K (.ret (.vec ((foldS x).map Stm.v) .any)) h→R f [x.v] h K
theorem stmtsGF_of {l:List Stm} {lv:Nat} (hb:V.bulks (l.map Stm.v) ≤ 20000000) (ih:∀ x ∈ l,FS 37 x) (hv:VSs l lv) (ok:∀ x ∈ l,SOk x) (hK:K (.ret (.vec ((foldSs l).map Stm.v) .any)) h):R 19 [.vec (l.map Stm.v) .any] h K:=by
 have hlen:=stms_len (l:=l)
 refine run19 (Nat.le_of_ble_eq_true rfl) ?_
 simp -dsimp -implicitDefEqProofs only [↓STP,STQ,seval,ir19,List.length_map]
 refine codeT_for (N:=l.length) (fun i=>⟨upd (upd (upd (upd ρ0 3 (.vec ((foldSs (l.take i)).map Stm.v) (.own 0))) 6 (.vec (l.map Stm.v) .any)) 7 (I l.length)) 8 (I i),m0,1,[],h⟩) (fun _=>True) (by simp -dsimp -implicitDefEqProofs only [↓STP,STQ,seval] <;> rfl) trivial (fun i hi _=>?_) (fun _=>?_) mono
 ·have hget:=get_map (f:=Stm.v) hi
  have hx:=ih _ (List.getElem_mem hi)
  have hvx:=VSs_all.1 hv _ (List.getElem_mem hi)
  have okx:=ok _ (List.getElem_mem hi)
  have hbx:=bulks_memS (List.getElem_mem hi)
  have w1:=wiM (show i < 9223372036854775807 by omega)
  have hsum:=fold_len hi hb
  rw [foldSs_take hi]
  generalize l[i]=x at *
  simp -dsimp -implicitDefEqProofs only [↓STP,STQ,seval,Int.ofNat_lt,hi,hget,storeSt,Stm.v_outs,Stm.v_clen,Stm.v_tk,Stm.v_ag,Stm.v_out,eq_self]
  refine hx _ _ _ hvx okx (by omega) ?_
  simp -dsimp -implicitDefEqProofs only [↓STP,STQ,seval]
  rw [app_own (sz:=5) (by simp) mapS_cells mapS_elems (by decide) (by decide) (by rw [List.length_map,List.length_map]; omega)]
  by_cases c:((foldS x).map Stm.v).length=0
  ·rw [if_pos c]
   have hnil:foldS x=[]:=by simpa using c
   simp -dsimp -implicitDefEqProofs only [↓STP,STQ,seval,w1,hnil,List.append_nil,eq_self]
  ·rw [if_neg c]
   simp -dsimp -implicitDefEqProofs only [↓STP,STQ,seval,w1,List.map_append,eq_self]
 ·rw [List.take_length]
  simp -dsimp -implicitDefEqProofs only [↓STP,STQ,seval,Int.lt_irrefl]
  exact hK
theorem stmtGF (x:Stm):FS 37 x:=by
 induction x using Stm.ind with
 | h k s e a b iha ihb =>
  intro lv h K hv ok hb hK
  obtain ⟨v1,v2,v3,v4,v5,v6,v7,v8,v9,v10,v11⟩:=VS_mk.1 hv
  obtain ⟨hk,hs,hle,hla,hlb,oke,oka,okb⟩:=SOk_mk ok
  rw [stm_bulk] at hb
  have he:e.length ≤ 4:=by split at v4 <;> omega
  have A:∀ {h:H} {K:Out→H→Prop},K (.ret (.vec ((foldSs a).map Stm.v) .any)) h→R 19 [.vec (a.map Stm.v) .any] h K:=fun hK=>stmtsGF_of (by omega) iha v10 oka hK
  have B:∀ {h:H} {K:Out→H→Prop},K (.ret (.vec ((foldSs b).map Stm.v) .any)) h→R 19 [.vec (b.map Stm.v) .any] h K:=fun hK=>stmtsGF_of (by omega) ihb v11 okb hK
  have ve:∀ x ∈ e.map foldE,VE x (lv + 1):=fun x hx=>by
   obtain ⟨y,hy,rfl⟩:=List.mem_map.1 hx
   exact VE_fold y _ (v9 y hy)
  have oe:∀ x ∈ e.map foldE,EOk x:=fun x hx=>by
   obtain ⟨y,hy,rfl⟩:=List.mem_map.1 hx
   exact EOk_fold y _ (v9 y hy) (oke y hy)
  rw [foldS_mk] at hK
  unfold foldStm at hK
  refine run37 (Nat.le_of_ble_eq_true rfl) ?_
  simp -dsimp -implicitDefEqProofs only [↓STP,STQ,seval,Stm.v_mk,ir37]
  refine exprsGF_of he (fun x _=>exprGF x) v9 oke ?_
  by_cases c3:k=3
  ·subst c3
   obtain ⟨x,rfl⟩:=len1 (show e.length=1 by simpa using v4)
   have dx:foldE x ∈ [x].map foldE:=by simp
   have hK:K (.ret (.vec ((if (3:Int)=3∧(constE (foldE x)).2=2 then (if (constE (foldE x)).1=1 then foldSs a else foldSs b) else [.mk 3 s [foldE x] (foldSs a) (foldSs b)]).map Stm.v) .any)) h:=by
    by_cases c:(constE (foldE x)).2=2
    ·rw [if_pos ⟨rfl,c⟩]
     rw [if_pos ⟨rfl,c⟩] at hK
     exact hK
    ·rw [if_neg fun h=>c h.2]
     rw [if_neg (fun h=>c h.2),if_neg (fun h=>by have:=h.1; omega)] at hK
     exact hK
   simp -dsimp -implicitDefEqProofs only [↓STP,STQ,seval,storeV,Exp.v_outs,Exp.v_clen,Exp.v_tk,Exp.v_ag,Exp.v_out]
   refine of31 _ (lv + 1) _ _ (ve _ dx) (oe _ dx) ?_
   have cx:=ck_const _ _ (ve _ dx)
   by_cases c2:(constE (foldE x)).2=2
   ·rw [if_pos ⟨rfl,c2⟩] at hK
    by_cases c1:(constE (foldE x)).1=1
    ·rw [if_pos c1] at hK
     simp -dsimp -implicitDefEqProofs only [↓STP,STQ,seval,KV_eq,store2,eq_true c2,c1]
     refine A ?_
     simp -dsimp -implicitDefEqProofs only [↓STP,STQ,seval]
     exact hK
    ·rw [if_neg c1] at hK
     have c0:(constE (foldE x)).1=0:=by rcases cx with c | c | c <;> omega
     simp -dsimp -implicitDefEqProofs only [↓STP,STQ,seval,KV_eq,store2,eq_true c2,c0]
     refine B ?_
     simp -dsimp -implicitDefEqProofs only [↓STP,STQ,seval]
     exact hK
   ·rw [if_neg fun h=>c2 h.2] at hK
    simp -dsimp -implicitDefEqProofs only [↓STP,STQ,seval,KV_eq,store2,eq_false c2]
    refine A ?_
    simp -dsimp -implicitDefEqProofs only [↓STP,STQ,seval]
    refine B ?_
    simp -dsimp -implicitDefEqProofs only [↓STP,STQ,seval,storeV]
    rw [List.map_cons,List.map_nil,Stm.v_mk] at hK
    exact hK
  rw [if_neg fun h=>c3 h.1] at hK
  by_cases c4:k=4
  ·subst c4
   obtain ⟨x,y,rfl⟩:=len2 (show e.length=2 by simpa using v4)
   have dx:foldE x ∈ [x,y].map foldE:=by simp
   have dy:foldE y ∈ [x,y].map foldE:=by simp
   simp -dsimp -implicitDefEqProofs only [↓STP,STQ,seval,storeV,Exp.v_outs,Exp.v_clen,Exp.v_tk,Exp.v_ag,Exp.v_out]
   rw [show V.agg [V.int .i64 4,.str s,.vec [(foldE x).v,(foldE y).v] .any,.vec (a.map Stm.v) .any,.vec (b.map Stm.v) .any]=(Stm.mk 4 s [foldE x,foldE y] a b).v by rw [Stm.v_mk]; rfl]
   refine neverG (ve _ dx) (ve _ dy) (oe _ dx) (oe _ dy) ?_
   by_cases c:(constE (foldE x)).2=1∧(constE (foldE y)).2=1∧(constE (foldE y)).1 < (constE (foldE x)).1
   ·rw [if_pos ⟨rfl,c⟩] at hK
    rw [decide_eq_true c]
    simp -dsimp -implicitDefEqProofs only [↓STP,STQ,seval]
    exact hK
   ·rw [if_neg (fun h=>c h.2)] at hK
    rw [decide_eq_false c]
    simp -dsimp -implicitDefEqProofs only [↓STP,STQ,seval]
    refine A ?_
    simp -dsimp -implicitDefEqProofs only [↓STP,STQ,seval]
    refine B ?_
    simp -dsimp -implicitDefEqProofs only [↓STP,STQ,seval,storeV]
    rw [List.map_cons,List.map_nil,Stm.v_mk] at hK
    exact hK
  rw [if_neg fun h=>c4 h.1] at hK
  simp -dsimp -implicitDefEqProofs only [↓STP,STQ,seval,storeV,eq_false c3,eq_false c4]
  refine A ?_
  simp -dsimp -implicitDefEqProofs only [↓STP,STQ,seval]
  refine B ?_
  simp -dsimp -implicitDefEqProofs only [↓STP,STQ,seval,storeV]
  rw [List.map_cons,List.map_nil,Stm.v_mk] at hK
  exact hK
theorem foldG {p:Prg} (ok:POk p) (hv:VSs p.body 1) (hb:p.v.bulk ≤ 20000000) (hK:K (.ret p.fold.v) h):R 8 [p.v] h K:=by
 rw [prg_bulk] at hb
 refine run8 (Nat.le_of_ble_eq_true rfl) ?_
 simp -dsimp -implicitDefEqProofs only [↓STP,STQ,seval,Prg.v,Prg.cells,ir8]
 refine stmtsGF_of (by omega) (fun x _=>stmtGF x) hv ok.body ?_
 simp -dsimp -implicitDefEqProofs only [↓STP,STQ,seval,storeV,eq_self]
 exact hK
end
end Go.Ab.YtemlhjlceeiflaaDoor
namespace Go.Ab
structure Kn where
 kind:Int
 w:Nat
 is:Bool
 val:Nat
def Kn.cells (k:Kn):List V:=[I k.kind,I k.w,.bool k.is,W k.val]
def Kn.v (k:Kn):V:=.agg k.cells
def knum (w:Nat):Kn:=⟨1,w,false,0⟩
def wid (n:Nat):Nat:=max (blen n) 1
def kcon (n:Nat):Kn:=⟨1,wid n,true,n⟩
def kboo:Kn:=⟨2,0,false,0⟩
structure KOk (k:Kn):Prop where
 kind:k.kind=1∨k.kind=2
 w:k.w ≤ 60
 val:k.val < 2 ^ k.w
 boo:k.kind=2→k.w=0∧k.is=false
 un:k.is=false→k.val=0
abbrev TR (α:Type):=Except Int α
def Ans {α:Type} (r:TR α) (K:α→Prop) (F:Int→Prop):Prop:=match r with
 | .ok a=>K a
 | .error e=>F e
@[simp] theorem Ans_ok {α:Type} {a:α} {K:α→Prop} {F:Int→Prop}:Ans (.ok a) K F=K a:=rfl
@[simp] theorem Ans_error {α:Type} {e:Int} {K:α→Prop} {F:Int→Prop}:Ans (.error e:TR α) K F=F e:=rfl
def andT {α β:Type} (r:TR α) (f:α→TR β):TR β:=match r with
 | .ok a=>f a
 | .error e=>.error e
@[simp] theorem andT_ok {α β:Type} {a:α} {f:α→TR β}:andT (.ok a) f=f a:=rfl
@[simp] theorem andT_error {α β:Type} {e:Int} {f:α→TR β}:andT (.error e) f=.error e:=rfl
structure TE where
 vars:ByteArray→Option (Int × Nat)
 loops:List (ByteArray × Nat)
 words:List (List Nat)
structure TS where
 env:TE
 steps:Nat
 most:Nat
 ifs:Nat
def findL {α:Type} (s:ByteArray):List (ByteArray × α)→Option α
 | []=>none
 | (a,v) :: es=>if a=s then some v else findL s es
def inOf (p:Prg) (s:ByteArray):Option InD:=p.ins.find? (fun d=>decide (d.name=s))
def arOf (p:Prg) (s:ByteArray):Option Nat:=p.arrays.findIdx? (fun d=>decide (d.name=s))
def nameT (p:Prg) (σ:TE) (s:ByteArray):TR Kn:=
 match findL s σ.loops with
 | some n=>.ok (kcon n)
 | none=>match σ.vars s with
  | some (k,w)=>.ok ⟨k,w,false,0⟩
  | none=>match inOf p s with
   | some d=>if d.size=0 then .ok (knum d.width.toNat) else .error 4
   | none=>.error 4
def placeT (k:Kn) (size:Int):TR Nat:=
 if k.kind ≠ 1∨k.is=false then .error 1 else if size ≤ k.val then .error 13 else .ok k.val
def indexT (p:Prg) (σ:TE) (s:ByteArray) (k:Kn):TR Kn:=
 match arOf p s with
 | some i=>andT (placeT k (p.arrays.getD i ⟨s,0⟩).size) fun n=>.ok (knum ((σ.words.getD i []).getD n 0))
 | none=>match inOf p s with
  | some d=>if d.size=0 then .error 4 else andT (placeT k d.size) fun _=>.ok (knum d.width.toNat)
  | none=>.error 4
def opKind (o:Int):Int:=if o=6∨o=7 then 2 else 1
def opK (o:Int) (a b:Kn):TR Kn:=
 if a.kind ≠ opKind o∨b.kind ≠ opKind o then .error 5
 else if o=1 then .ok ⟨1,max a.w b.w + 1,a.is && b.is,if a.is && b.is then a.val + b.val else 0⟩
 else if o=2 then .ok ⟨1,a.w,a.is && b.is,if a.is && b.is then a.val - b.val else 0⟩
 else if o=3 then .ok ⟨1,a.w + b.w,a.is && b.is,if a.is && b.is then a.val * b.val else 0⟩
 else .ok kboo
def nthK (l:List Kn) (i:Nat):Kn:=l.getD i kboo
def madeT (p:Prg) (σ:TE) (k o:Int) (n:Nat) (s:ByteArray) (l:List Kn):TR Kn:=
 if k=1 then .ok (kcon n)
 else if k=2 then nameT p σ s
 else if k=3 then indexT p σ s (nthK l 0)
 else if k=4 then opK o (nthK l 0) (nthK l 1)
 else if k=5 then (if (nthK l 0).kind ≠ 2 then .error 5 else .ok kboo)
 else if (nthK l 0).kind ≠ 2∨(nthK l 2).kind ≠ (nthK l 1).kind then .error 5
 else .ok ⟨(nthK l 1).kind,max (nthK l 1).w (nthK l 2).w,false,0⟩
def toldT (m:Nat) (k:Kn):TR (Kn × Nat):=
 if k.kind=1 then (if 60 < k.w then .error 11 else .ok (k,max m k.w)) else .ok (k,m)
mutual
def exprT (p:Prg) (σ:TE):Exp→TR (Kn × Nat)
 | .mk k o n s ks=>andT (exprsT p σ ks) fun (l,m)=>andT (madeT p σ k o n s l) fun r=>toldT m r
def exprsT (p:Prg) (σ:TE):List Exp→TR (List Kn × Nat)
 | []=>.ok ([],0)
 | e :: es=>andT (exprT p σ e) fun (a,m)=>andT (exprsT p σ es) fun (l,m')=>.ok (a :: l,max m m')
end
def stepT (σ:TS):TR TS:=if 10000 ≤ σ.steps then .error 2 else .ok { σ with steps:=σ.steps + 1 }
def takenT (p:Prg) (σ:TE) (s:ByteArray):Bool:=(inOf p s).isSome || (arOf p s).isSome || (findL s σ.loops).isSome
def setV (f:ByteArray→Option (Int × Nat)) (s:ByteArray) (v:Option (Int × Nat)):ByteArray→Option (Int × Nat):=fun t=>if t=s then v else f t
def both1 (a b:Option (Int × Nat)):Option (Int × Nat):=match a,b with
 | some (k,w),some (k',w')=>if k=k' then some (k,max w w') else none
 | _,_=>none
def bothV (ahead a b:ByteArray→Option (Int × Nat)):ByteArray→Option (Int × Nat):=fun s=>match ahead s with
 | some _=>both1 (a s) (b s)
 | none=>none
def maxW (a b:List (List Nat)):List (List Nat):=List.zipWith (List.zipWith max) a b
def setW (l:List (List Nat)) (i n w:Nat):List (List Nat):=l.set i ((l.getD i []).set n w)
def iterT (f:Nat→TS→TR TS):Nat→Nat→TS→TR TS
 | 0,_,σ=>.ok σ
 | c + 1,n,σ=>andT (f n σ) fun σ'=>iterT f c (n + 1) σ'
def turnT (s:ByteArray) (fa:TS→TR TS) (n:Nat) (τ:TS):TR TS:=
 andT (stepT τ) fun τ=>andT (fa { τ with env:={ τ.env with loops:=τ.env.loops ++ [(s,n)] } }) fun τ'=>.ok { τ' with env:={ τ'.env with loops:=τ.env.loops } }
def setT (p:Prg) (s:ByteArray) (l:List Kn) (σ:TS):TR TS:=
 if takenT p σ.env s then .error 4 else .ok { σ with env:={ σ.env with vars:=setV σ.env.vars s (some ((nthK l 0).kind,(nthK l 0).w)) } }
def storeT (p:Prg) (s:ByteArray) (l:List Kn) (σ:TS):TR TS:=match arOf p s with
 | none=>.error 4
 | some i=>andT (placeT (nthK l 0) (p.arrays.getD i ⟨s,0⟩).size) fun n =>
  if (nthK l 1).kind ≠ 1 then .error 5 else .ok { σ with env:={ σ.env with words:=setW σ.env.words i n (nthK l 1).w } }
def ifT (l:List Kn) (fa fb:TS→TR TS) (σ:TS):TR TS:=
 if (nthK l 0).kind ≠ 2 then .error 5 else
 andT (fa { σ with ifs:=σ.ifs + 1 }) fun σ1=>andT (fb { σ1 with env:=σ.env }) fun σ2 =>
 .ok { σ2 with ifs:=σ.ifs,env:={ σ.env with vars:=bothV σ.env.vars σ1.env.vars σ2.env.vars,words:=maxW σ2.env.words σ1.env.words } }
def forT (p:Prg) (s:ByteArray) (l:List Kn) (fa:TS→TR TS) (σ:TS):TR TS:=
 if (nthK l 0).kind ≠ 1∨(nthK l 1).kind ≠ 1∨(nthK l 0).is=false∨(nthK l 1).is=false then .error 1
 else if takenT p σ.env s then .error 4 else
 iterT (turnT s fa) ((nthK l 1).val + 1 - (nthK l 0).val) (nthK l 0).val { σ with env:={ σ.env with vars:=setV σ.env.vars s none } }
def stmt1 (p:Prg) (k:Int) (s:ByteArray) (l:List Kn) (fa fb:TS→TR TS) (σ:TS):TR TS:=
 if k=1 then setT p s l σ else if k=2 then storeT p s l σ else if k=3 then ifT l fa fb σ else if k=4 then forT p s l fa σ
 else if 0 < σ.ifs then .error 1 else .ok σ
mutual
def stmtT (p:Prg):Stm→TS→TR TS
 | .mk k s e a b,σ=>andT (stepT σ) fun σ=>andT (exprsT p σ.env e) fun r=>stmt1 p k s r.1 (stmtsT p a) (stmtsT p b) { σ with most:=max σ.most r.2 }
def stmtsT (p:Prg):List Stm→TS→TR TS
 | [],σ=>.ok σ
 | x :: xs,σ=>andT (stmtT p x σ) fun σ'=>stmtsT p xs σ'
end
def unlikeT (p:Prg):Bool:=decide ((p.ins.map InD.name ++ p.arrays.map ArD.name).Nodup)
def maxI:List InD→Nat
 | []=>0
 | d :: ds=>max d.width.toNat (maxI ds)
def initT (p:Prg):TS:=⟨⟨fun _=>none,[],p.arrays.map fun d=>List.replicate d.size.toNat 1⟩,0,maxI p.ins,0⟩
def checkT (p:Prg):TR TS:=if unlikeT p then stmtsT p p.body (initT p) else .error 4
structure EOkT (p:Prg) (σ:TE):Prop where
 vars:∀ s k w,σ.vars s=some (k,w)→(k=1∨k=2)∧w ≤ 60∧(k=2→w=0)
 loops:∀ s n,(s,n) ∈ σ.loops→n < 1152921504606846976
 wlen:σ.words.length=p.arrays.length
 words:∀ (i:Nat) (l:List Nat) (d:ArD),σ.words[i]?=some l→p.arrays[i]?=some d→(l.length:Int)=d.size∧∀ w ∈ l,w ≤ 60
structure TOk (p:Prg) (σ:TS):Prop where
 env:EOkT p σ.env
 steps:σ.steps ≤ 10000
 most:σ.most ≤ 60
end Go.Ab
namespace Go.Ab
def Grow (h:H) (sz:Nat) (css:List (List V)) (j:Nat) (v:V):Prop:=
 (∀ c ∈ css,c.length=sz)∧((css=[]∧v=.vec [] .full)∨(css ≠ []∧v=.ref j 0 css.length sz∧h.get j=some css.flatten))
theorem Grow.frame {h h':H} {sz j:Nat} {css:List (List V)} {v:V} (g:Grow h sz css j v) (e:css ≠ []→h'.objs j=h.objs j):Grow h' sz css j v:=by
 refine ⟨g.1,?_⟩
 rcases g.2 with h1 | ⟨h1,h2,h3⟩
 ·exact .inl h1
 ·exact .inr ⟨h1,h2,by unfold H.get at h3 ⊢; rw [e h1]; exact h3⟩
def V.outv:V→V
 | .vec xs _=>.vec xs .any
 | v=>v
theorem Grow.out {h:H} {sz j:Nat} {css:List (List V)} {v:V} (g:Grow h sz css j v):v.out=some v.outv∧v.outS=some v∧v.cells=[v]:=by
 rcases g.2 with ⟨_,rfl⟩ | ⟨_,rfl,_⟩ <;> exact ⟨rfl,rfl,rfl⟩
theorem flatten_len {sz:Nat}:∀ {css:List (List V)},(∀ c ∈ css,c.length=sz)→css.flatten.length=css.length * sz
 | [],_=>by simp
 | c :: css,h=>by
  rw [List.flatten_cons,List.length_append,flatten_len (fun c hc=>h c (by simp [hc])),h c (by simp),List.length_cons,Nat.succ_mul]
  omega
theorem grow_app {h:H} {sz j bytes:Nat} {css:List (List V)} {v el:V} (g:Grow h sz css j v) (hel:el.cells.length=sz) (hz:0 < sz) (hb:bytes ≤ 4096) (hl:css.length < 1000000) :
  ∃ h':H,(∀ (st:S) (s:Nat) (ag:Bool) (c2:Cap),st.h=h→appV st s v (.vec [el] c2) sz bytes ag true=some (.ref h.next 0 (css.length + 1) sz,st.withH h')) ∧
   Grow h' sz (css ++ [el.cells]) h.next (.ref h.next 0 (css.length + 1) sz)∧h'.next=h.next + 1∧∀ i,i < h.next→(css ≠ []→i ≠ j)→h'.objs i=h.objs i:=by
 have hall:∀ c ∈ css ++ [el.cells],c.length=sz:=by
  intro c hc
  rcases List.mem_append.1 hc with h1 | h1
  ·exact g.1 c h1
  ·simp at h1; subst h1; exact hel
 rcases g.2 with ⟨rfl,rfl⟩ | ⟨h1,rfl,h3⟩
 ·refine ⟨h.new (.cells el.cells),fun st s ag c2 hs=>?_,⟨by simpa using hall,.inr ⟨by simp,by simp,by rw [get_new]; simp⟩⟩,rfl,fun i hi _=>?_⟩
  ·subst hs
   simp only [appV,lenV,flat,List.length_cons,List.length_nil,List.flatMap_cons,List.flatMap_nil,List.append_nil,Nat.zero_add,Nat.one_mul]
   rw [if_pos ⟨hel,hz,hb⟩,if_pos (by decide)]
  ·simp [H.new,upd,Nat.ne_of_lt hi]
 ·refine ⟨h.move j (.cells (css.flatten ++ el.cells)),fun st s ag c2 hs=>?_,⟨hall,.inr ⟨by simp,by simp,by rw [get_move]; simp⟩⟩,rfl,fun i hi hne=>?_⟩
  ·subst hs
   simp only [appV,lenV,flat,List.length_cons,List.length_nil,List.flatMap_cons,List.flatMap_nil,List.append_nil,Nat.zero_add,Nat.one_mul,h3]
   rw [if_pos ⟨hel,hz,hb⟩,if_pos ⟨flatten_len g.1,trivial,by unfold most; omega,by decide⟩]
  ·simp [H.move,upd,Nat.ne_of_lt hi,hne h1]
def Src (v:V):Prop:=(∃ xs,v=.vec xs .any)∨∃ a b c d,v=.ref a b c d
theorem Grow.src {h:H} {sz j:Nat} {css:List (List V)} {v:V} (g:Grow h sz css j v):flat h v.outv=some css.flatten∧lenV v.outv=some css.length∧Src v.outv:=by
 rcases g.2 with ⟨rfl,rfl⟩ | ⟨h1,rfl,h3⟩
 ·exact ⟨rfl,rfl,.inl ⟨_,rfl⟩⟩
 ·refine ⟨?_,rfl,.inr ⟨_,_,_,_,rfl⟩⟩
  simp only [V.outv,flat,h3,List.drop_zero]
  rw [List.take_of_length_le (Nat.le_of_eq (flatten_len g.1))]
def Evo (h:H) (F:Nat→Prop) (h':H) (F2:Nat→Prop):Prop:=h.next ≤ h'.next∧∀ j,j < h.next→¬ F j→h'.objs j=h.objs j∧¬ F2 j
theorem Evo.refl (h:H) (F:Nat→Prop):Evo h F h F:=⟨Nat.le_refl _,fun j _ hF=>⟨rfl,hF⟩⟩
theorem Evo.trans {h h' h'':H} {F F2 F3:Nat→Prop} (a:Evo h F h' F2) (b:Evo h' F2 h'' F3):Evo h F h'' F3:=
 ⟨Nat.le_trans a.1 b.1,fun j hj hF=>by
  obtain ⟨h1,h2⟩:=a.2 j hj hF
  obtain ⟨h3,h4⟩:=b.2 j (Nat.lt_of_lt_of_le hj a.1) h2
  exact ⟨h3.trans h1,h4⟩⟩
end Go.Ab
namespace Go.Ab
def mapO {α:Type} (f:α→V) (l:List (ByteArray × α)):List (V × V):=l.map fun p=>(.str p.1,f p.2)
def findIx {α:Type} (s:ByteArray):List (ByteArray × α)→Nat→Option (Nat × α)
 | [],_=>none
 | (a,v) :: es,i=>if a=s then some (i,v) else findIx s es (i + 1)
theorem beqBA {a b:ByteArray}:(a == b)=decide (a=b):=by
 by_cases h:a=b
 ·subst h; rw [decide_eq_true rfl]; exact (MapKept.bytes_beq a a).2 rfl
 ·rw [decide_eq_false h]
  cases hb:(a == b) with
  | false=>rfl
  | true=>exact absurd ((MapKept.bytes_beq a b).1 hb) h
theorem findE_mapO {α:Type} {f:α→V} {s:ByteArray}:∀ {l:List (ByteArray × α)} {i:Nat},findE .s (.str s) (mapO f l) i=some ((findIx s l i).map fun q=>(q.1,f q.2))
 | [],i=>rfl
 | (a,v) :: es,i=>by
  show (match eqC .s (.str s) (.str a) with | some true=>_ | some false=>_ | none=>_)=_
  simp only [eqC,beqBA,findIx]
  by_cases h:a=s
  ·subst h; rw [if_pos rfl,decide_eq_true rfl]; rfl
  ·rw [if_neg h,decide_eq_false (fun e=>h e.symm)]
   exact findE_mapO
theorem findIx_findL {α:Type} {s:ByteArray}:∀ {l:List (ByteArray × α)} {i:Nat},(findIx s l i).map (·.2)=findL s l
 | [],i=>rfl
 | (a,v) :: es,i=>by
  simp only [findIx,findL]
  by_cases h:a=s
  ·rw [if_pos h,if_pos h]; rfl
  ·rw [if_neg h,if_neg h]; exact findIx_findL
theorem mapAt_of {h:H} {id ver:Nat} {es:List (V × V)} (ho:h.objs id=some (.map es ver)):h.mapAt id=some (es,ver):=by unfold H.mapAt; rw [ho]
theorem get_of {h:H} {id:Nat} {cs:List V} (ho:h.objs id=some (.cells cs)):h.get id=some cs:=by unfold H.get; rw [ho]
theorem lkp_two {α:Type} {f:α→V} {h:H} {id ver:Nat} {l:List (ByteArray × α)} {s:ByteArray} {zero:V} (ho:h.objs id=some (.map (mapO f l) ver)) :
  lkpV h .s (.map id) (.str s) zero true=some (.tuple [((findL s l).map f).getD zero,.bool (findL s l).isSome]):=by
 simp only [lkpV,mapAt_of ho,findE_mapO]
 rw [← findIx_findL (i:=0)]
 cases findIx s l 0 <;> rfl
theorem lkp_one {α:Type} {f:α→V} {h:H} {id ver:Nat} {l:List (ByteArray × α)} {s:ByteArray} {zero:V} (ho:h.objs id=some (.map (mapO f l) ver)) :
  lkpV h .s (.map id) (.str s) zero false=some (((findL s l).map f).getD zero):=by
 simp only [lkpV,mapAt_of ho,findE_mapO]
 rw [← findIx_findL (i:=0)]
 cases findIx s l 0 <;> rfl
def insL (p:Prg):List (ByteArray × InD):=p.ins.map fun d=>(d.name,d)
def arsL (p:Prg):List (ByteArray × Int):=p.arrays.map fun d=>(d.name,d.size)
theorem findL_ins {p:Prg} {s:ByteArray}:findL s (insL p)=inOf p s:=by
 unfold insL inOf
 induction p.ins with
 | nil=>rfl
 | cons d ds ih =>
  simp only [List.map_cons,findL,List.find?_cons]
  by_cases h:d.name=s
  ·rw [if_pos h,decide_eq_true h]
  ·rw [if_neg h,decide_eq_false h]; exact ih
theorem findL_ars {p:Prg} {s:ByteArray}:findL s (arsL p)=(arOf p s).map fun i=>(p.arrays.getD i ⟨s,0⟩).size:=by
 unfold arsL arOf
 induction p.arrays with
 | nil=>rfl
 | cons d ds ih =>
  simp only [List.map_cons,findL,List.findIdx?_cons]
  by_cases h:d.name=s
  ·rw [if_pos h,decide_eq_true h]; rfl
  ·rw [if_neg h,decide_eq_false h,ih]
   cases List.findIdx? (fun d=>decide (d.name=s)) ds <;> rfl
theorem arOf_some {p:Prg} {s:ByteArray} {i:Nat} (h:arOf p s=some i):∃ d,p.arrays[i]?=some d∧d.name=s∧p.arrays.getD i ⟨s,0⟩=d:=by
 unfold arOf at h
 obtain ⟨hi,h1,_⟩:=List.findIdx?_eq_some_iff_getElem.1 h
 exact ⟨p.arrays[i],List.getElem?_eq_getElem hi,of_decide_eq_true h1,by rw [List.getD_eq_getElem?_getD,List.getElem?_eq_getElem hi]; rfl⟩
structure Lk where
 x:Nat
 i:Nat
 s:Nat
 v:Nat
 w:Nat
 l:Nat
 es:List (ByteArray × Int × Nat)
 ws:List (ByteArray × Nat × Nat)
def Lk.own (L:Lk):List Nat:=[L.x,L.i,L.s,L.v,L.w,L.l] ++ L.ws.map fun r=>r.2.1
def Lk.cs (L:Lk) (σ:TS):List V:=[.map L.i,.map L.s,.map L.v,.map L.w,.map L.l,I σ.steps,I σ.most,I σ.ifs]
def vkV (r:Int × Nat):V:=(Kn.mk r.1 r.2 false 0).v
def refV (r:Nat × Nat):V:=.ref r.1 0 r.2 1
def conV (n:Nat):V:=(kcon n).v
def intV (n:Int):V:=I n
def natVs (l:List Nat):List V:=l.map fun n:Nat=>I (n:Int)
structure At (p:Prg) (L:Lk) (σ:TS) (h:H):Prop where
 x:h.objs L.x=some (.cells (L.cs σ))
 i:∃ ver,h.objs L.i=some (.map (mapO InD.v (insL p)) ver)
 s:∃ ver,h.objs L.s=some (.map (mapO intV (arsL p)) ver)
 v:∃ ver,h.objs L.v=some (.map (mapO vkV L.es) ver)
 w:∃ ver,h.objs L.w=some (.map (mapO refV L.ws) ver)
 l:∃ ver,h.objs L.l=some (.map (mapO conV σ.env.loops) ver)
 es:∀ s,findL s L.es=σ.env.vars s
 esn:(L.es.map (·.1)).Nodup
 ws:∀ (i:Nat) (d:ArD),p.arrays[i]?=some d→∃ id ws,σ.env.words[i]?=some ws∧findL d.name L.ws=some (id,ws.length)∧h.objs id=some (.cells (natVs ws))
 wsn:(L.ws.map (·.1)).Nodup
 wk:∀ r ∈ L.ws,∃ d:ArD,d ∈ p.arrays∧d.name=r.1
 nd:L.own.Nodup
 lt:∀ id ∈ L.own,id < h.next
structure Fr (L L':Lk) (h h':H):Prop where
 nx:h.next ≤ h'.next
 x:L'.x=L.x
 same:∀ id,id < h.next→id ∉ L.own→h'.objs id=h.objs id
 own:∀ id ∈ L'.own,id ∈ L.own∨h.next ≤ id
theorem Fr.refl (L:Lk) (h:H):Fr L L h h:=⟨Nat.le_refl _,rfl,fun _ _ _=>rfl,fun _ hi=>.inl hi⟩
theorem Fr.trans {L L' L'':Lk} {h h' h'':H} (a:Fr L L' h h') (b:Fr L' L'' h' h''):Fr L L'' h h'':=
 ⟨Nat.le_trans a.nx b.nx,b.x.trans a.x,fun id hl hn=>by
  rw [b.same id (Nat.lt_of_lt_of_le hl a.nx) (fun hi=>(a.own id hi).elim hn (fun hh=>absurd hl (Nat.not_lt.2 hh)))]
  exact a.same id hl hn,fun id hi=>(b.own id hi).elim (fun hh=>a.own id hh) (fun hh=>.inr (Nat.le_trans a.nx hh))⟩
theorem set_objs {h:H} {id j:Nat} {o:O}:(h.set id o).objs j=if j=id then some o else h.objs j:=rfl
theorem set_next {h:H} {id:Nat} {o:O}:(h.set id o).next=h.next:=rfl
theorem new_objs {h:H} {j:Nat} {o:O}:(h.new o).objs j=if j=h.next then some o else h.objs j:=rfl
theorem new_next {h:H} {o:O}:(h.new o).next=h.next + 1:=rfl
theorem Lk.x_mem (L:Lk):L.x ∈ L.own:=by simp [Lk.own]
theorem At.ne {p:Prg} {L:Lk} {σ:TS} {h:H} (A:At p L σ h):L.x ≠ L.i∧L.x ≠ L.s∧L.x ≠ L.v∧L.x ≠ L.w∧L.x ≠ L.l:=by
 have:=A.nd
 simp only [Lk.own,List.cons_append,List.nil_append,List.nodup_cons,List.mem_cons,not_or] at this
 exact ⟨this.1.1,this.1.2.1,this.1.2.2.1,this.1.2.2.2.1,this.1.2.2.2.2.1⟩
theorem findL_mem {α:Type} {s:ByteArray} {v:α}:∀ {l:List (ByteArray × α)},findL s l=some v→(s,v) ∈ l
 | (a,u) :: es,h=>by
  simp only [findL] at h
  split at h
  ·rename_i e; cases h; subst e; simp
  ·exact List.mem_cons_of_mem _ (findL_mem h)
theorem At.ws_own {p:Prg} {L:Lk} {σ:TS} {h:H} (A:At p L σ h) {s:ByteArray} {id n:Nat} (hf:findL s L.ws=some (id,n)):id ∈ L.own∧id ≠ L.x∧id ≠ L.i∧id ≠ L.s∧id ≠ L.v∧id ≠ L.w∧id ≠ L.l:=by
 have hm:id ∈ L.ws.map fun r=>r.2.1:=List.mem_map.2 ⟨_,findL_mem hf,rfl⟩
 have hd:=A.nd
 simp only [Lk.own,List.nodup_append] at hd
 refine ⟨by unfold Lk.own; exact List.mem_append_right _ hm,?_⟩
 have:=fun a ha=>hd.2.2 a ha id hm
 simp only [List.mem_cons,List.not_mem_nil,or_false,forall_eq_or_imp,forall_eq] at this
 exact ⟨this.1.symm,this.2.1.symm,this.2.2.1.symm,this.2.2.2.1.symm,this.2.2.2.2.1.symm,this.2.2.2.2.2.symm⟩
theorem At.count {p:Prg} {L:Lk} {σ:TS} {h:H} (A:At p L σ h) (σ':TS) (he:σ'.env=σ.env):At p L σ' (h.set L.x (.cells (L.cs σ')))∧Fr L L h (h.set L.x (.cells (L.cs σ'))):=by
 obtain ⟨n1,n2,n3,n4,n5⟩:=A.ne
 refine ⟨⟨by simp [set_objs],?_,?_,?_,?_,?_,by rw [he]; exact A.es,A.esn,fun i d hd=>?_,A.wsn,A.wk,A.nd,A.lt⟩,⟨Nat.le_refl _,rfl,fun id _ hn=>?_,fun id hi=>.inl hi⟩⟩
 ·simp only [set_objs,if_neg n1.symm]; exact A.i
 ·simp only [set_objs,if_neg n2.symm]; exact A.s
 ·simp only [set_objs,if_neg n3.symm]; exact A.v
 ·simp only [set_objs,if_neg n4.symm]; exact A.w
 ·simp only [set_objs,if_neg n5.symm]; rw [he]; exact A.l
 ·obtain ⟨id,ws,a,b,c⟩:=A.ws i d hd
  refine ⟨id,ws,by rw [he]; exact a,b,?_⟩
  rw [set_objs,if_neg (A.ws_own b).2.1]; exact c
 ·rw [set_objs,if_neg (fun e=>hn (by rw [e]; exact L.x_mem))]
end Go.Ab
namespace Go.Ab
theorem inV_cells {d:InD}:d.v=.agg [.str d.name,I d.frm,I d.width,I d.size]:=rfl
theorem kn_cells {k:Kn}:k.v=.agg [I k.kind,I k.w,.bool k.is,W k.val]:=rfl
theorem getD_none {v:V}:(none:Option V).getD v=v:=rfl
theorem getD_some {u v:V}:(some u).getD v=u:=rfl
theorem map_none' {α:Type} {f:α→V}:(none:Option α).map f=none:=rfl
theorem map_some' {α:Type} {f:α→V} {a:α}:(some a).map f=some (f a):=rfl
theorem isSome_none' {α:Type}:(none:Option α).isSome=false:=rfl
theorem isSome_some' {α:Type} {a:α}:(some a).isSome=true:=rfl
theorem wid_pos (n:Nat):1 ≤ wid n:=by unfold wid; omega
theorem wid_le {n k:Nat} (h:n < 2 ^ k) (hk:1 ≤ k):wid n ≤ k:=by
 have:=(blen_le (k:=k)).2 h
 unfold wid; omega
theorem lt_wid (n:Nat):n < 2 ^ wid n:=by
 have h:n < 2 ^ blen n:=blen_le.1 (Nat.le_refl _)
 exact Nat.lt_of_lt_of_le h (Nat.pow_le_pow_right (by decide) (by unfold wid; omega))
theorem KOk_con {n:Nat} (h:n < 1152921504606846976):KOk (kcon n):=⟨.inl rfl,wid_le (k:=60) (by omega) (by decide),lt_wid n,fun h=>absurd (show (1:Int)=2 from h) (by decide),fun h=>absurd (show true=false from h) (by decide)⟩
theorem KOk_num {w:Nat} (h:w ≤ 60):KOk (knum w):=⟨.inl rfl,h,Nat.two_pow_pos _,fun h=>absurd (show (1:Int)=2 from h) (by decide),fun _=>rfl⟩
theorem KOk_boo:KOk kboo:=⟨.inr rfl,by decide,by decide,fun _=>⟨rfl,rfl⟩,fun _=>rfl⟩
theorem KOk.lt {k:Kn} (h:KOk k):k.val < 1152921504606846976:=Nat.lt_of_lt_of_le h.val (Nat.le_trans (Nat.pow_le_pow_right (by decide) h.w) (by decide))
namespace YtemlhjlceeiflaaDoor
section
variable {h:H} {K:Out→H→Prop} {p:Prg} {L:Lk} {σ:TS}
def wrongV (e:Int):V:=.iface 86 (.agg [I e])
theorem failG {e:Int} (hK:K (.pan (wrongV e)) h):R 35 [I e] h K:=by
 refine run35 (Nat.le_of_ble_eq_true rfl) ?_
 simp -dsimp -implicitDefEqProofs only [↓STP,STQ,seval,ir35]
 rw [opT_pan (t:=86) (v:=.agg [I e]) rfl]
 exact hK
theorem numberG {w:Nat} (hK:K (.ret (knum w).v) h):R 104 [I w] h K:=by
 refine run104 (Nat.le_of_ble_eq_true rfl) ?_
 simp -dsimp -implicitDefEqProofs only [↓STP,STQ,seval,ir104,storeV]
 exact hK
theorem constantG {n:Nat} (hn:n < 18446744073709551616) (hK:K (.ret (kcon n).v) h):R 98 [W n] h K:=by
 refine run98 (Nat.le_of_ble_eq_true rfl) ?_
 simp -dsimp -implicitDefEqProofs only [↓STP,STQ,seval,ir98]
 refine width_full hn ?_
 simp -dsimp -implicitDefEqProofs only [↓STP,STQ,seval,storeV]
 exact hK
theorem mustG {k:Kn} {t:Int} (h1:k.kind=t→K (.ret (.tuple [])) h) (h2:k.kind ≠ t→K (.pan (wrongV 5)) h):R 85 [k.v,I t] h K:=by
 refine run85 (Nat.le_of_ble_eq_true rfl) ?_
 by_cases c:k.kind=t
 ·simp -dsimp -implicitDefEqProofs only [↓STP,STQ,seval,ir85,kn_cells,eq_true c]
  exact h1 c
 ·simp -dsimp -implicitDefEqProofs only [↓STP,STQ,seval,ir85,kn_cells,eq_false c]
  refine failG ?_
  simp -dsimp -implicitDefEqProofs only [↓STP,STQ,seval]
  exact h2 c
theorem placeG {k:Kn} {size:Int} (hs:0 ≤ size) (hs2:size ≤ 9223372036854775807) (hv:k.val < 1152921504606846976) (hK:Ans (placeT k size) (fun n=>K (.ret (I n)) h) (fun e=>K (.pan (wrongV e)) h)):R 84 [k.v,I size] h K:=by
 refine run84 (Nat.le_of_ble_eq_true rfl) ?_
 have w1:IntKind.u64.wrap size=size:=wrap_u64_self hs (by omega)
 have w2:IntKind.i64.wrap (k.val:Int)=(k.val:Int):=wrap_i64 (by omega) (by omega)
 unfold placeT at hK
 by_cases c:k.kind=1
 ·cases ci:k.is with
  | false =>
   rw [if_pos (.inr ci)] at hK
   simp -dsimp -implicitDefEqProofs only [↓STP,STQ,seval,ir84,kn_cells,eq_true c,ci]
   refine failG ?_
   simp -dsimp -implicitDefEqProofs only [↓STP,STQ,seval]
   exact hK
  | true =>
   rw [if_neg (by simp [c,ci])] at hK
   by_cases cs:size ≤ (k.val:Int)
   ·rw [if_pos cs] at hK
    simp -dsimp -implicitDefEqProofs only [↓STP,STQ,seval,ir84,kn_cells,eq_true c,ci,w1,eq_true cs]
    refine failG ?_
    simp -dsimp -implicitDefEqProofs only [↓STP,STQ,seval]
    exact hK
   ·rw [if_neg cs] at hK
    simp -dsimp -implicitDefEqProofs only [↓STP,STQ,seval,ir84,kn_cells,eq_true c,ci,w1,eq_false cs,w2]
    exact hK
 ·rw [if_pos (.inl c)] at hK
  simp -dsimp -implicitDefEqProofs only [↓STP,STQ,seval,ir84,kn_cells,eq_false c]
  refine failG ?_
  simp -dsimp -implicitDefEqProofs only [↓STP,STQ,seval]
  exact hK
theorem takenG {s:ByteArray} (A:At p L σ h) (hK:K (.ret (.bool (takenT p σ.env s))) h):R 34 [.ptr L.x 0,.str s] h K:=by
 refine run34 (Nat.le_of_ble_eq_true rfl) ?_
 obtain ⟨v1,i1⟩:=A.i
 obtain ⟨v2,i2⟩:=A.s
 obtain ⟨v3,i3⟩:=A.l
 have gx:=get_of A.x
 unfold takenT at hK
 rw [← findL_ins] at hK
 have e2:(findL s (arsL p)).isSome=(arOf p s).isSome:=by rw [findL_ars]; cases arOf p s <;> rfl
 rw [← e2] at hK
 cases c1:findL s (insL p) <;> cases c2:findL s (arsL p) <;> cases c3:findL s σ.env.loops <;> rw [c1,c2,c3] at hK <;>
  (simp -dsimp -implicitDefEqProofs only [↓STP,STQ,seval,ir34,gx,Lk.cs,lkp_two i1,lkp_two i2,lkp_two i3,c1,c2,c3,getD_none,getD_some,map_none',map_some',isSome_none',isSome_some',inV_cells,intV,conV,kn_cells,storeV]; exact hK)
theorem stepG (A:At p L σ h) (hs:σ.steps ≤ 10000) (hK:Ans (stepT σ) (fun σ'=>∀ h',At p L σ' h'→Fr L L h h'→K (.ret (.tuple [])) h') (fun e=>K (.pan (wrongV e)) h)):R 57 [.ptr L.x 0] h K:=by
 refine run57 (Nat.le_of_ble_eq_true rfl) ?_
 have gx:=get_of A.x
 unfold stepT at hK
 by_cases c:10000 ≤ σ.steps
 ·have c':(10000:Int) ≤ (σ.steps:Int):=by omega
  rw [if_pos c] at hK
  simp -dsimp -implicitDefEqProofs only [↓STP,STQ,seval,ir57,gx,Lk.cs,eq_true c']
  refine failG ?_
  simp -dsimp -implicitDefEqProofs only [↓STP,STQ,seval]
  exact hK
 ·have c':¬ (10000:Int) ≤ (σ.steps:Int):=by omega
  rw [if_neg c] at hK
  have w1:IntKind.i64.wrap ((σ.steps:Int) + 1)=((σ.steps + 1:Nat):Int):=by rw [wrap_i64] <;> omega
  simp -dsimp -implicitDefEqProofs only [↓STP,STQ,seval,ir57,gx,Lk.cs,eq_false c',w1,storeV]
  obtain ⟨A',F⟩:=A.count { σ with steps:=σ.steps + 1 } rfl
  exact hK _ A' F
theorem toldG {k:Kn} (A:At p L σ h) (hw:k.w ≤ 1000) (hm:σ.most ≤ 60) (hK:Ans (toldT σ.most k) (fun r=>∀ h',At p L { σ with most:=r.2 } h'→Fr L L h h'→K (.ret r.1.v) h') (fun e=>K (.pan (wrongV e)) h)):R 99 [.ptr L.x 0,k.v] h K:=by
 refine run99 (Nat.le_of_ble_eq_true rfl) ?_
 have gx:=get_of A.x
 unfold toldT at hK
 by_cases c:k.kind=1
 ·rw [if_pos c] at hK
  by_cases d:60 < k.w
  ·have d':(60:Int) < (k.w:Int):=by omega
   rw [if_pos d] at hK
   simp -dsimp -implicitDefEqProofs only [↓STP,STQ,seval,ir99,kn_cells,eq_true c,eq_true d']
   refine failG ?_
   simp -dsimp -implicitDefEqProofs only [↓STP,STQ,seval]
   exact hK
  ·have d':¬ (60:Int) < (k.w:Int):=by omega
   rw [if_neg d] at hK
   have hm2:(if (k.w:Int) > (σ.most:Int) then (k.w:Int) else (σ.most:Int))=((max σ.most k.w:Nat):Int):=by split <;> omega
   simp -dsimp -implicitDefEqProofs only [↓STP,STQ,seval,ir99,kn_cells,eq_true c,eq_false d',gx,Lk.cs,maxV_two,hm2,storeV]
   obtain ⟨A',F⟩:=A.count { σ with most:=max σ.most k.w } rfl
   exact hK _ A' F
 ·rw [if_neg c] at hK
  simp -dsimp -implicitDefEqProofs only [↓STP,STQ,seval,ir99,kn_cells,eq_false c,storeV]
  exact hK _ A (Fr.refl _ _)
end
end YtemlhjlceeiflaaDoor
end Go.Ab
