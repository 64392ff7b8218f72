/- Part of a proof:  -/
import Derived.Test.YtihjhelbdbeokaaGreatDoorQ3
import Derived.Test.YtihjhelbdbeokaaGreatDoorQ6
import Derived.Test.YtihjhelbdbeokaaGreatDoorQ5
set_option linter.unusedVariables false
set_option maxRecDepth 100000
namespace Go.Ab.YtihjhelbdbeokaaGreatDoor
def etA:Tr:=(.node 124 ir124 (.node 69 ir69 (.node 42 ir42 (.node 31 ir31 (.node 19 ir19 (.node 17 ir17 (.node 16 ir16 .nil .nil) (.node 18 ir18 .nil .nil)) (.node 30 ir30 (.node 24 ir24 .nil .nil) .nil)) (.node 39 ir39 (.node 38 ir38 (.node 37 ir37 .nil .nil) .nil) (.node 41 ir41 (.node 40 ir40 .nil .nil) .nil))) (.node 63 ir63 (.node 59 ir59 (.node 58 ir58 (.node 43 ir43 .nil .nil) .nil) (.node 62 ir62 (.node 61 ir61 .nil .nil) .nil)) (.node 66 ir66 (.node 65 ir65 (.node 64 ir64 .nil .nil) .nil) (.node 68 ir68 (.node 67 ir67 .nil .nil) .nil)))) (.node 99 ir99 (.node 75 ir75 (.node 72 ir72 (.node 71 ir71 (.node 70 ir70 .nil .nil) .nil) (.node 74 ir74 (.node 73 ir73 .nil .nil) .nil)) (.node 96 ir96 (.node 95 ir95 (.node 76 ir76 .nil .nil) .nil) (.node 98 ir98 (.node 97 ir97 .nil .nil) .nil))) (.node 105 ir105 (.node 102 ir102 (.node 101 ir101 (.node 100 ir100 .nil .nil) .nil) (.node 104 ir104 (.node 103 ir103 .nil .nil) .nil)) (.node 121 ir121 (.node 120 ir120 (.node 119 ir119 .nil .nil) .nil) (.node 123 ir123 (.node 122 ir122 .nil .nil) .nil))))) (.node 188 ir188 (.node 158 ir158 (.node 151 ir151 (.node 148 ir148 (.node 147 ir147 (.node 146 ir146 .nil .nil) .nil) (.node 150 ir150 (.node 149 ir149 .nil .nil) .nil)) (.node 154 ir154 (.node 153 ir153 (.node 152 ir152 .nil .nil) .nil) (.node 157 ir157 (.node 156 ir156 .nil .nil) .nil))) (.node 182 ir182 (.node 179 ir179 (.node 178 ir178 (.node 177 ir177 .nil .nil) .nil) (.node 181 ir181 (.node 180 ir180 .nil .nil) .nil)) (.node 185 ir185 (.node 184 ir184 (.node 183 ir183 .nil .nil) .nil) (.node 187 ir187 (.node 186 ir186 .nil .nil) .nil)))) (.node 206 ir206 (.node 200 ir200 (.node 192 ir192 (.node 191 ir191 (.node 190 ir190 .nil .nil) .nil) (.node 199 ir199 (.node 198 ir198 .nil .nil) .nil)) (.node 203 ir203 (.node 202 ir202 (.node 201 ir201 .nil .nil) .nil) (.node 205 ir205 (.node 204 ir204 .nil .nil) .nil))) (.node 215 ir215 (.node 212 ir212 (.node 211 ir211 (.node 207 ir207 .nil .nil) .nil) (.node 214 ir214 (.node 213 ir213 .nil .nil) .nil)) (.node 220 ir220 (.node 219 ir219 (.node 216 ir216 .nil .nil) .nil) (.node 222 ir222 (.node 221 ir221 .nil .nil) .nil))))))
def dnA (f:Nat):Nat:=match Nat.beq f 38 with | true=>3 | false=>match Nat.beq f 58 with | true=>2 | false=>0
theorem etA_16:Said env 16 ir16 (dnA 16):=⟨rfl,by kernel_rfl⟩
theorem etA_17:Said env 17 ir17 (dnA 17):=⟨rfl,by kernel_rfl⟩
theorem etA_18:Said env 18 ir18 (dnA 18):=⟨rfl,by kernel_rfl⟩
theorem etA_19:Said env 19 ir19 (dnA 19):=⟨rfl,by kernel_rfl⟩
theorem etA_24:Said env 24 ir24 (dnA 24):=⟨rfl,by kernel_rfl⟩
theorem etA_30:Said env 30 ir30 (dnA 30):=⟨rfl,by kernel_rfl⟩
theorem etA_31:Said env 31 ir31 (dnA 31):=⟨rfl,by kernel_rfl⟩
theorem etA_37:Said env 37 ir37 (dnA 37):=⟨rfl,by kernel_rfl⟩
theorem etA_38:Said env 38 ir38 (dnA 38):=⟨_,rfl,fun call args h K fuel hle hlen hc=>⟨hlen,fuel,hc⟩⟩
theorem etA_39:Said env 39 ir39 (dnA 39):=⟨rfl,by kernel_rfl⟩
theorem etA_40:Said env 40 ir40 (dnA 40):=⟨rfl,by kernel_rfl⟩
theorem etA_41:Said env 41 ir41 (dnA 41):=⟨rfl,by kernel_rfl⟩
theorem etA_42:Said env 42 ir42 (dnA 42):=⟨rfl,by kernel_rfl⟩
theorem etA_43:Said env 43 ir43 (dnA 43):=⟨rfl,by kernel_rfl⟩
theorem etA_58:Said env 58 ir58 (dnA 58):=⟨_,rfl,fun call args h K fuel hle hlen hc=>⟨hlen,fuel,Zcg hle (Nat.le_refl _) endN_D hc⟩⟩
theorem etA_59:Said env 59 ir59 (dnA 59):=⟨rfl,by kernel_rfl⟩
theorem etA_61:Said env 61 ir61 (dnA 61):=⟨rfl,by kernel_rfl⟩
theorem etA_62:Said env 62 ir62 (dnA 62):=⟨rfl,by kernel_rfl⟩
theorem etA_63:Said env 63 ir63 (dnA 63):=⟨rfl,by kernel_rfl⟩
theorem etA_64:Said env 64 ir64 (dnA 64):=⟨rfl,by kernel_rfl⟩
theorem etA_65:Said env 65 ir65 (dnA 65):=⟨rfl,by kernel_rfl⟩
theorem etA_66:Said env 66 ir66 (dnA 66):=⟨rfl,by kernel_rfl⟩
theorem etA_67:Said env 67 ir67 (dnA 67):=⟨rfl,by kernel_rfl⟩
theorem etA_68:Said env 68 ir68 (dnA 68):=⟨rfl,by kernel_rfl⟩
theorem etA_69:Said env 69 ir69 (dnA 69):=⟨rfl,by kernel_rfl⟩
theorem etA_70:Said env 70 ir70 (dnA 70):=⟨rfl,by kernel_rfl⟩
theorem etA_71:Said env 71 ir71 (dnA 71):=⟨rfl,by kernel_rfl⟩
theorem etA_72:Said env 72 ir72 (dnA 72):=⟨rfl,by kernel_rfl⟩
theorem etA_73:Said env 73 ir73 (dnA 73):=⟨rfl,by kernel_rfl⟩
theorem etA_74:Said env 74 ir74 (dnA 74):=⟨rfl,by kernel_rfl⟩
theorem etA_75:Said env 75 ir75 (dnA 75):=⟨rfl,by kernel_rfl⟩
theorem etA_76:Said env 76 ir76 (dnA 76):=⟨rfl,by kernel_rfl⟩
theorem etA_95:Said env 95 ir95 (dnA 95):=⟨rfl,by kernel_rfl⟩
theorem etA_96:Said env 96 ir96 (dnA 96):=⟨rfl,by kernel_rfl⟩
theorem etA_97:Said env 97 ir97 (dnA 97):=⟨rfl,by kernel_rfl⟩
theorem etA_98:Said env 98 ir98 (dnA 98):=⟨rfl,by kernel_rfl⟩
theorem etA_99:Said env 99 ir99 (dnA 99):=⟨rfl,by kernel_rfl⟩
theorem etA_100:Said env 100 ir100 (dnA 100):=⟨rfl,by kernel_rfl⟩
theorem etA_101:Said env 101 ir101 (dnA 101):=⟨rfl,by kernel_rfl⟩
theorem etA_102:Said env 102 ir102 (dnA 102):=⟨rfl,by kernel_rfl⟩
theorem etA_103:Said env 103 ir103 (dnA 103):=⟨rfl,by kernel_rfl⟩
theorem etA_104:Said env 104 ir104 (dnA 104):=⟨rfl,by kernel_rfl⟩
theorem etA_105:Said env 105 ir105 (dnA 105):=⟨rfl,by kernel_rfl⟩
theorem etA_119:Said env 119 ir119 (dnA 119):=⟨rfl,by kernel_rfl⟩
theorem etA_120:Said env 120 ir120 (dnA 120):=⟨rfl,by kernel_rfl⟩
theorem etA_121:Said env 121 ir121 (dnA 121):=⟨rfl,by kernel_rfl⟩
theorem etA_122:Said env 122 ir122 (dnA 122):=⟨rfl,by kernel_rfl⟩
theorem etA_123:Said env 123 ir123 (dnA 123):=⟨rfl,by kernel_rfl⟩
theorem etA_124:Said env 124 ir124 (dnA 124):=⟨rfl,by kernel_rfl⟩
theorem etA_146:Said env 146 ir146 (dnA 146):=⟨rfl,by kernel_rfl⟩
theorem etA_147:Said env 147 ir147 (dnA 147):=⟨rfl,by kernel_rfl⟩
theorem etA_148:Said env 148 ir148 (dnA 148):=⟨rfl,by kernel_rfl⟩
theorem etA_149:Said env 149 ir149 (dnA 149):=⟨rfl,by kernel_rfl⟩
theorem etA_150:Said env 150 ir150 (dnA 150):=⟨rfl,by kernel_rfl⟩
theorem etA_151:Said env 151 ir151 (dnA 151):=⟨rfl,by kernel_rfl⟩
theorem etA_152:Said env 152 ir152 (dnA 152):=⟨rfl,by kernel_rfl⟩
theorem etA_153:Said env 153 ir153 (dnA 153):=⟨rfl,by kernel_rfl⟩
theorem etA_154:Said env 154 ir154 (dnA 154):=⟨rfl,by kernel_rfl⟩
theorem etA_156:Said env 156 ir156 (dnA 156):=⟨rfl,by kernel_rfl⟩
theorem etA_157:Said env 157 ir157 (dnA 157):=⟨rfl,by kernel_rfl⟩
theorem etA_158:Said env 158 ir158 (dnA 158):=⟨rfl,by kernel_rfl⟩
theorem etA_177:Said env 177 ir177 (dnA 177):=⟨rfl,by kernel_rfl⟩
theorem etA_178:Said env 178 ir178 (dnA 178):=⟨rfl,by kernel_rfl⟩
theorem etA_179:Said env 179 ir179 (dnA 179):=⟨rfl,by kernel_rfl⟩
theorem etA_180:Said env 180 ir180 (dnA 180):=⟨rfl,by kernel_rfl⟩
theorem etA_181:Said env 181 ir181 (dnA 181):=⟨rfl,by kernel_rfl⟩
theorem etA_182:Said env 182 ir182 (dnA 182):=⟨rfl,by kernel_rfl⟩
theorem etA_183:Said env 183 ir183 (dnA 183):=⟨rfl,by kernel_rfl⟩
theorem etA_184:Said env 184 ir184 (dnA 184):=⟨rfl,by kernel_rfl⟩
theorem etA_185:Said env 185 ir185 (dnA 185):=⟨rfl,by kernel_rfl⟩
theorem etA_186:Said env 186 ir186 (dnA 186):=⟨rfl,by kernel_rfl⟩
theorem etA_187:Said env 187 ir187 (dnA 187):=⟨rfl,by kernel_rfl⟩
theorem etA_188:Said env 188 ir188 (dnA 188):=⟨rfl,by kernel_rfl⟩
theorem etA_190:Said env 190 ir190 (dnA 190):=⟨rfl,by kernel_rfl⟩
theorem etA_191:Said env 191 ir191 (dnA 191):=⟨rfl,by kernel_rfl⟩
theorem etA_192:Said env 192 ir192 (dnA 192):=⟨rfl,by kernel_rfl⟩
theorem etA_198:Said env 198 ir198 (dnA 198):=⟨rfl,by kernel_rfl⟩
theorem etA_199:Said env 199 ir199 (dnA 199):=⟨rfl,by kernel_rfl⟩
theorem etA_200:Said env 200 ir200 (dnA 200):=⟨rfl,by kernel_rfl⟩
theorem etA_201:Said env 201 ir201 (dnA 201):=⟨rfl,by kernel_rfl⟩
theorem etA_202:Said env 202 ir202 (dnA 202):=⟨rfl,by kernel_rfl⟩
theorem etA_203:Said env 203 ir203 (dnA 203):=⟨rfl,by kernel_rfl⟩
theorem etA_204:Said env 204 ir204 (dnA 204):=⟨rfl,by kernel_rfl⟩
theorem etA_205:Said env 205 ir205 (dnA 205):=⟨rfl,by kernel_rfl⟩
theorem etA_206:Said env 206 ir206 (dnA 206):=⟨rfl,by kernel_rfl⟩
theorem etA_207:Said env 207 ir207 (dnA 207):=⟨rfl,by kernel_rfl⟩
theorem etA_211:Said env 211 ir211 (dnA 211):=⟨rfl,by kernel_rfl⟩
theorem etA_212:Said env 212 ir212 (dnA 212):=⟨rfl,by kernel_rfl⟩
theorem etA_213:Said env 213 ir213 (dnA 213):=⟨rfl,by kernel_rfl⟩
theorem etA_214:Said env 214 ir214 (dnA 214):=⟨rfl,by kernel_rfl⟩
theorem etA_215:Said env 215 ir215 (dnA 215):=⟨rfl,by kernel_rfl⟩
theorem etA_216:Said env 216 ir216 (dnA 216):=⟨rfl,by kernel_rfl⟩
theorem etA_219:Said env 219 ir219 (dnA 219):=⟨rfl,by kernel_rfl⟩
theorem etA_220:Said env 220 ir220 (dnA 220):=⟨rfl,by kernel_rfl⟩
theorem etA_221:Said env 221 ir221 (dnA 221):=⟨rfl,by kernel_rfl⟩
theorem etA_222:Said env 222 ir222 (dnA 222):=⟨rfl,by kernel_rfl⟩
theorem etA_all:etA.all (fun n F=>Said env n F (dnA n)):=⟨etA_124,⟨etA_69,⟨etA_42,⟨etA_31,⟨etA_19,⟨etA_17,⟨etA_16,trivial,trivial⟩,⟨etA_18,trivial,trivial⟩⟩,⟨etA_30,⟨etA_24,trivial,trivial⟩,trivial⟩⟩,⟨etA_39,⟨etA_38,⟨etA_37,trivial,trivial⟩,trivial⟩,⟨etA_41,⟨etA_40,trivial,trivial⟩,trivial⟩⟩⟩,⟨etA_63,⟨etA_59,⟨etA_58,⟨etA_43,trivial,trivial⟩,trivial⟩,⟨etA_62,⟨etA_61,trivial,trivial⟩,trivial⟩⟩,⟨etA_66,⟨etA_65,⟨etA_64,trivial,trivial⟩,trivial⟩,⟨etA_68,⟨etA_67,trivial,trivial⟩,trivial⟩⟩⟩⟩,⟨etA_99,⟨etA_75,⟨etA_72,⟨etA_71,⟨etA_70,trivial,trivial⟩,trivial⟩,⟨etA_74,⟨etA_73,trivial,trivial⟩,trivial⟩⟩,⟨etA_96,⟨etA_95,⟨etA_76,trivial,trivial⟩,trivial⟩,⟨etA_98,⟨etA_97,trivial,trivial⟩,trivial⟩⟩⟩,⟨etA_105,⟨etA_102,⟨etA_101,⟨etA_100,trivial,trivial⟩,trivial⟩,⟨etA_104,⟨etA_103,trivial,trivial⟩,trivial⟩⟩,⟨etA_121,⟨etA_120,⟨etA_119,trivial,trivial⟩,trivial⟩,⟨etA_123,⟨etA_122,trivial,trivial⟩,trivial⟩⟩⟩⟩⟩,⟨etA_188,⟨etA_158,⟨etA_151,⟨etA_148,⟨etA_147,⟨etA_146,trivial,trivial⟩,trivial⟩,⟨etA_150,⟨etA_149,trivial,trivial⟩,trivial⟩⟩,⟨etA_154,⟨etA_153,⟨etA_152,trivial,trivial⟩,trivial⟩,⟨etA_157,⟨etA_156,trivial,trivial⟩,trivial⟩⟩⟩,⟨etA_182,⟨etA_179,⟨etA_178,⟨etA_177,trivial,trivial⟩,trivial⟩,⟨etA_181,⟨etA_180,trivial,trivial⟩,trivial⟩⟩,⟨etA_185,⟨etA_184,⟨etA_183,trivial,trivial⟩,trivial⟩,⟨etA_187,⟨etA_186,trivial,trivial⟩,trivial⟩⟩⟩⟩,⟨etA_206,⟨etA_200,⟨etA_192,⟨etA_191,⟨etA_190,trivial,trivial⟩,trivial⟩,⟨etA_199,⟨etA_198,trivial,trivial⟩,trivial⟩⟩,⟨etA_203,⟨etA_202,⟨etA_201,trivial,trivial⟩,trivial⟩,⟨etA_205,⟨etA_204,trivial,trivial⟩,trivial⟩⟩⟩,⟨etA_215,⟨etA_212,⟨etA_211,⟨etA_207,trivial,trivial⟩,trivial⟩,⟨etA_214,⟨etA_213,trivial,trivial⟩,trivial⟩⟩,⟨etA_220,⟨etA_219,⟨etA_216,trivial,trivial⟩,trivial⟩,⟨etA_222,⟨etA_221,trivial,trivial⟩,trivial⟩⟩⟩⟩⟩⟩
theorem etA_look:∀ f F,etA.find f=some F→Said env f F (dnA f):=fun _ _ h=>Tr.find_all etA_all h
end Go.Ab.YtihjhelbdbeokaaGreatDoor
set_option linter.unusedSimpArgs false
namespace Go.Ab
theorem fdiv_pow {x m:Nat}:Int.fdiv (x:Int) (2 ^ m)=((x / 2 ^ m:Nat):Int):=by
 have:((2:Int) ^ m)=((2 ^ m:Nat):Int):=by simp
 rw [this,Int.fdiv_eq_ediv_of_nonneg _ (Int.natCast_nonneg _)]
 rfl
theorem bits_and {a b:Nat} (ha:a < 18446744073709551616) (hb:b < 18446744073709551616):Zp5 .and .u64 (a:Int) (b:Int)=some (W (a &&& b)):=by
 have h1:a &&& b < 2 ^ 64:=Nat.and_lt_two_pow a (show b < 2 ^ 64 from hb)
 have h2:a < 2 ^ 64:=ha
 have h3:b < 2 ^ 64:=hb
 have h0:Zp5 .and .u64 (a:Int) (b:Int)=some (.int .u64 (IntKind.u64.wrap ((BitVec.ofInt 64 (a:Int) &&& BitVec.ofInt 64 (b:Int)).toNat:Nat))):=rfl
 rw [h0,BitVec.ofInt_natCast,BitVec.ofInt_natCast,BitVec.toNat_and,BitVec.toNat_ofNat,BitVec.toNat_ofNat,Nat.mod_eq_of_lt h2,Nat.mod_eq_of_lt h3,Zay (by omega) (by omega)]
theorem over_one {cs:List V} {i:Nat} {v:V} (hi:i < cs.length):over cs i [v]=cs.set i v:=by
 unfold over
 rw [List.set_eq_take_append_cons_drop,if_pos hi]
 simp
def tab (n:Nat) (f:Nat→V):List V:=(List.range n).map f
end Go.Ab
set_option maxRecDepth 100000
namespace Go.Ab.YtihjhelbdbeokaaGreatDoor
def orcA:Zic:=fun f args h=>match Nat.beq f 102 with
 | true=>match args with
  | [.vec [] .any]=>some (.ret (.vec [] (.own 0)),h)
  | _=>none
 | false=>none
theorem Zss:Zca orcA (Runs env):=by
 intro f vs h o h' K hr hK
 unfold orcA at hr
 split at hr
 ·rename_i hf
  have hf:=Nat.eq_of_beq_eq_true hf
  subst hf
  split at hr
  ·cases hr
   refine run102 (Nat.le_of_ble_eq_true rfl) ?_
   simp -dsimp -implicitDefEqProofs only [↓STP,STQ,seval,ir102]
   rw [opT_nilS rfl]
   refine ⟨fun _=>?_,?_⟩
   ·simp -dsimp -implicitDefEqProofs only [↓STP,STQ,seval]
    exact hK
   ·simp -dsimp -implicitDefEqProofs only [↓STP,STQ,seval,appV]
    exact hK
  ·cases hr
 ·cases hr
theorem Zt5:Zfo (Zpx etA.find dnA orcA 300 ir13)=true:=by kernel_rfl
theorem Zp6 {h:H} {K:Out→H→Prop} (hK:K (.ret (.bool true)) h):R 13 [] h K:=Zo4 (F:=ir13) (n:=300) ext2 Zss etA_look rfl Zt5 hK
end Go.Ab.YtihjhelbdbeokaaGreatDoor
namespace Go.Ab
open Go.RowKit Go.ChangeShapes
section
variable {H':Type} {enc:TypeId × Value→H'} {P:Program} {W:World} {ts:List TypeId}
def Zqa (P:Program) (t:TypeId) (v:V):Prop:=∃ ag cs,aggT P t=some ag∧v=mkEl ag cs∧Ty P t cs
def Zlr (P:Program):List TypeId→List V→Prop
 | [],vs=>vs=[]
 | t :: tys,vs=>∃ v r,vs=v :: r∧Zqa P t v∧Zlr P tys r
theorem Zg1 (hl:laidOutB P=true) {W':World} (hb:Below W.heap.size W W'):∀ {tys:List TypeId} {vs:List Value} {ds:List (DataW H')} {ps:List MemPlace},(∀ t ∈ tys,P.readableRec t=true∧t < P.types.size) →
  DataW.TrodAll enc P W 0 (fun _=>true) true tys vs ds ps→DataW.TrodAll enc P W' 0 (fun b=>decide (b < W.heap.size)) true tys vs ds ps
 | [],[],[],ps,_,h=>h
 | [],_ :: _,_,_,_,h=>h.elim
 | [],[],_ :: _,_,_,h=>h.elim
 | _ :: _,[],_,_,_,h=>h.elim
 | _ :: _,_ :: _,[],_,_,h=>h.elim
 | t :: tys,v :: vs,d :: ds,ps,hr,h=>by
  have hlt:=h.lt
  obtain ⟨p,q,h1,h2,rfl⟩:=h
  exact ⟨p,q,Below.trod hl (hr t (by simp)).1 (hr t (by simp)).2 h1 hb (fun x hx=>hlt x (by simp [hx])),Zg1 hl hb (fun t ht=>hr t (by simp [ht])) h2,rfl⟩
theorem Zi8:∀ {tys:List TypeId} {vs:List Value} {ds:List (DataW H')} {ps:List MemPlace},DataW.TrodAll enc P W 0 (fun _=>true) true tys vs ds ps→ds.length=tys.length
 | [],[],[],_,_=>rfl
 | [],_ :: _,_,_,h=>h.elim
 | [],[],_ :: _,_,h=>h.elim
 | _ :: _,[],_,_,h=>h.elim
 | _ :: _,_ :: _,[],_,h=>h.elim
 | t :: tys,v :: vs,d :: ds,ps,h=>by
  obtain ⟨p,q,h1,h2,_⟩:=h
  simp [Zi8 h2]
end
end Go.Ab
namespace Go.Ab
section
variable {P:Program} {t e:TypeId} {v:V} {k:IntKind}
theorem Zg0 {cs:List V} (ht:P.underlying t=some (.int k)) (h:Ty P t cs):∃ n,cs=[.int k n]∧(Lit.int k n).wf=true:=by
 cases h with
 | int hu n hn=>rw [ht] at hu; cases hu; exact ⟨n,rfl,hn⟩
 | bool hu=>rw [ht] at hu; cases hu
 | str hu=>rw [ht] at hu; cases hu
 | slice hu=>rw [ht] at hu; cases hu
 | struct hu=>rw [ht] at hu; cases hu
 | array hu=>rw [ht] at hu; cases hu
theorem Zqk {cs:List V} (ht:P.underlying t=some .string) (h:Ty P t cs):∃ s:ByteArray,cs=[.str s]∧s.size ≤ maxLen:=by
 cases h with
 | int hu n hn=>rw [ht] at hu; cases hu
 | bool hu b=>rw [ht] at hu; cases hu
 | str hu s hs=>exact ⟨s,rfl,hs⟩
 | slice hu=>rw [ht] at hu; cases hu
 | struct hu=>rw [ht] at hu; cases hu
 | array hu=>rw [ht] at hu; cases hu
theorem Zlv {cs:List V} (ht:P.underlying t=some (.slice e)) (h:Ty P t cs):∃ (ag:Bool) (css:List (List V)),aggT P e=some ag∧cs=[.vec (css.map (mkEl ag)) .any]∧(∀ cs ∈ css,Ty P e cs)∧css.length ≤ maxLen:=by
 cases h with
 | int hu n hn=>rw [ht] at hu; cases hu
 | bool hu b=>rw [ht] at hu; cases hu
 | str hu s hs=>rw [ht] at hu; cases hu
 | slice hu ha css hc hl=>rw [ht] at hu; cases hu; exact ⟨_,css,ha,rfl,hc,hl⟩
 | struct hu=>rw [ht] at hu; cases hu
 | array hu=>rw [ht] at hu; cases hu
theorem Zi7 {cs:List V} {fs:Array Field} (ht:P.underlying t=some (.struct fs)) (h:Ty P t cs):∃ parts:List (List V),cs=parts.flatten∧parts.length=fs.size∧∀ (i:Nat) (f:Field) (cs:List V),fs[i]?=some f→parts[i]?=some cs→Ty P f.type cs:=by
 cases h with
 | int hu n hn=>rw [ht] at hu; cases hu
 | bool hu b=>rw [ht] at hu; cases hu
 | str hu s hs=>rw [ht] at hu; cases hu
 | slice hu ha css hc hl=>rw [ht] at hu; cases hu
 | struct hu parts hl hp=>rw [ht] at hu; cases hu; exact ⟨parts,rfl,hl,hp⟩
 | array hu=>rw [ht] at hu; cases hu
theorem agg_int (ht:P.underlying t=some (.int k)):aggT P t=some false:=by unfold aggT; rw [ht]
theorem Zoo (ht:P.underlying t=some (.slice e)):aggT P t=some false:=by unfold aggT; rw [ht]
theorem Zeh {fs:Array Field} (ht:P.underlying t=some (.struct fs)):aggT P t=some true:=by unfold aggT; rw [ht]
def Ns (k:IntKind) (l:List Int):List V:=l.map (V.int k)
theorem wf_u64 {n:Int} (h:(Lit.int .u64 n).wf=true):∃ m:Nat,n=m∧m < 18446744073709551616:=by
 simp [Lit.wf,IntKind.min,IntKind.max,IntKind.signed,IntKind.bits] at h
 exact ⟨n.toNat,by omega,by omega⟩
theorem Zi4 {n:Int} (h:(Lit.int .i64 n).wf=true):-9223372036854775808 ≤ n∧n ≤ 9223372036854775807:=by
 simp [Lit.wf,IntKind.min,IntKind.max,IntKind.signed,IntKind.bits] at h
 omega
theorem map_ints {css:List (List V)} (he:P.underlying e=some (.int k)) (hc:∀ cs ∈ css,Ty P e cs):∃ l:List Int,css.map (mkEl false)=Ns k l∧l.length=css.length∧∀ n ∈ l,(Lit.int k n).wf=true:=by
 induction css with
 | nil=>exact ⟨[],rfl,rfl,by simp⟩
 | cons cs css ih =>
  obtain ⟨n,rfl,hn⟩:=Zg0 he (hc cs (by simp))
  obtain ⟨l,h1,h2,h3⟩:=ih (fun cs h=>hc cs (by simp [h]))
  refine ⟨n :: l,by simp [h1,Ns,mkEl],by simp [h2],fun m hm=>?_⟩
  rcases List.mem_cons.1 hm with rfl | hm
  ·exact hn
  ·exact h3 m hm
theorem Ns_words {l:List Int} (h:∀ n ∈ l,(Lit.int .u64 n).wf=true):∃ ws:List Nat,Ns .u64 l=Ws ws∧ws.length=l.length∧∀ w ∈ ws,w < 18446744073709551616:=by
 induction l with
 | nil=>exact ⟨[],rfl,rfl,by simp⟩
 | cons n l ih =>
  obtain ⟨m,rfl,hm⟩:=wf_u64 (h n (by simp))
  obtain ⟨ws,h1,h2,h3⟩:=ih (fun n hn=>h n (by simp [hn]))
  refine ⟨m :: ws,by simp [Ns,Ws] at h1 ⊢; exact h1,by simp [h2],fun w hw=>?_⟩
  rcases List.mem_cons.1 hw with rfl | hw
  ·exact hm
  ·exact h3 w hw
theorem args_1v {vs:List V} (h:Zlr P [t] vs):∃ a,vs=[a]∧Zqa P t a:=by
 obtain ⟨a,r,rfl,h1,rfl⟩:=h
 exact ⟨a,rfl,h1⟩
theorem args_2v {vs:List V} {t2:TypeId} (h:Zlr P [t,t2] vs):∃ a b,vs=[a,b]∧Zqa P t a∧Zqa P t2 b:=by
 obtain ⟨a,r,rfl,h1,h2⟩:=h
 obtain ⟨b,rfl,h3⟩:=args_1v h2
 exact ⟨a,b,rfl,h1,h3⟩
end
end Go.Ab
namespace Go.Ab
inductive Exp where
 | mk (kind op:Int) (num:Nat) (name:ByteArray) (kids:List Exp)
mutual
def Exp.v:Exp→V
 | .mk k o n s ks=>.agg [I k,I o,W n,.str s,.vec (Exp.vs ks) .any]
def Exp.vs:List Exp→List V
 | []=>[]
 | e :: es=>e.v :: Exp.vs es
end
theorem Exp.vs_map:∀ l:List Exp,Exp.vs l=l.map Exp.v
 | []=>rfl
 | e :: es=>by rw [Exp.vs,Exp.vs_map es]; rfl
def Exp.kind:Exp→Int | .mk k _ _ _ _=>k
def Exp.op:Exp→Int | .mk _ o _ _ _=>o
def Exp.num:Exp→Nat | .mk _ _ n _ _=>n
def Exp.name:Exp→ByteArray | .mk _ _ _ s _=>s
def Exp.kids:Exp→List Exp | .mk _ _ _ _ ks=>ks
def Exp.cells (e:Exp):List V:=[I e.kind,I e.op,W e.num,.str e.name,.vec (e.kids.map Exp.v) .any]
theorem Exp.v_eq (e:Exp):e.v=.agg e.cells:=by
 cases e with
 | mk k o n s ks=>rw [Exp.v,Exp.vs_map]; rfl
theorem Exp.ind {P:Exp→Prop} (h:∀ k o n s ks,(∀ x ∈ ks,P x)→P (.mk k o n s ks)):∀ e,P e
 | .mk k o n s ks=>h k o n s ks fun x hx=>Exp.ind h x
inductive Stm where
 | mk (kind:Int) (name:ByteArray) (e:List Exp) (thn els:List Stm)
mutual
def Stm.v:Stm→V
 | .mk k s e a b=>.agg [I k,.str s,.vec (e.map Exp.v) .any,.vec (Stm.vs a) .any,.vec (Stm.vs b) .any]
def Stm.vs:List Stm→List V
 | []=>[]
 | e :: es=>e.v :: Stm.vs es
end
theorem Stm.vs_map:∀ l:List Stm,Stm.vs l=l.map Stm.v
 | []=>rfl
 | e :: es=>by rw [Stm.vs,Stm.vs_map es]; rfl
def Stm.kind:Stm→Int | .mk k _ _ _ _=>k
def Stm.name:Stm→ByteArray | .mk _ s _ _ _=>s
def Stm.e:Stm→List Exp | .mk _ _ e _ _=>e
def Stm.thn:Stm→List Stm | .mk _ _ _ a _=>a
def Stm.els:Stm→List Stm | .mk _ _ _ _ b=>b
def Stm.cells (s:Stm):List V:=[I s.kind,.str s.name,.vec (s.e.map Exp.v) .any,.vec (s.thn.map Stm.v) .any,.vec (s.els.map Stm.v) .any]
theorem Stm.v_eq (s:Stm):s.v=.agg s.cells:=by
 cases s with
 | mk k s e a b=>rw [Stm.v,Stm.vs_map,Stm.vs_map]; rfl
theorem Stm.ind {P:Stm→Prop} (h:∀ k s e a b,(∀ x ∈ a,P x)→(∀ x ∈ b,P x)→P (.mk k s e a b)):∀ s,P s
 | .mk k s e a b=>h k s e a b (fun x hx=>Stm.ind h x) (fun x hx=>Stm.ind h x)
structure InD where
 name:ByteArray
 frm:Int
 width:Int
 size:Int
def InD.cells (x:InD):List V:=[.str x.name,I x.frm,I x.width,I x.size]
def InD.v (x:InD):V:=.agg x.cells
structure ArD where
 name:ByteArray
 size:Int
def ArD.cells (x:ArD):List V:=[.str x.name,I x.size]
def ArD.v (x:ArD):V:=.agg x.cells
structure Prg where
 ins:List InD
 arrays:List ArD
 body:List Stm
def Prg.cells (p:Prg):List V:=[.vec (p.ins.map InD.v) .any,.vec (p.arrays.map ArD.v) .any,.vec (p.body.map Stm.v) .any]
def Prg.v (p:Prg):V:=.agg p.cells
def I64 (n:Int):Prop:=-9223372036854775808 ≤ n∧n ≤ 9223372036854775807
inductive EOk:Exp→Prop
 | mk {k o:Int} {n:Nat} {s:ByteArray} {ks:List Exp} (hk:I64 k) (ho:I64 o) (hn:n < 18446744073709551616) (hs:s.size ≤ maxLen) (hl:ks.length ≤ maxLen) (h:∀ x ∈ ks,EOk x):EOk (.mk k o n s ks)
inductive SOk:Stm→Prop
 | mk {k:Int} {s:ByteArray} {e:List Exp} {a b:List Stm} (hk:I64 k) (hs:s.size ≤ maxLen) (hle:e.length ≤ maxLen) (hla:a.length ≤ maxLen) (hlb:b.length ≤ maxLen) (he:∀ x ∈ e,EOk x) (ha:∀ x ∈ a,SOk x) (hb:∀ x ∈ b,SOk x):SOk (.mk k s e a b)
structure InOk (x:InD):Prop where
 f:I64 x.frm
 w:I64 x.width
 s:I64 x.size
 n:x.name.size ≤ maxLen
structure ArOk (x:ArD):Prop where
 s:I64 x.size
 n:x.name.size ≤ maxLen
structure POk (p:Prg):Prop where
 ins:∀ x ∈ p.ins,InOk x
 arrays:∀ x ∈ p.arrays,ArOk x
 body:∀ x ∈ p.body,SOk x
 li:p.ins.length ≤ maxLen
 la:p.arrays.length ≤ maxLen
 lb:p.body.length ≤ maxLen
section
variable {P:Program} {t te ti tw ts:TypeId}
theorem Zpf {α:Type} {f:α→V} {Q:α→Prop} {css:List (List V)} (h:∀ cs ∈ css,∃ a,cs=(f a).cells∧Q a∧∃ l,f a=.agg l):∃ l:List α,css.map (mkEl true)=l.map f∧l.length=css.length∧∀ x ∈ l,Q x:=by
 induction css with
 | nil=>exact ⟨[],rfl,rfl,by simp⟩
 | cons cs css ih =>
  obtain ⟨a,h1,h2,l',h5⟩:=h cs (by simp)
  obtain ⟨l,h3,h4,h6⟩:=ih (fun cs hc=>h cs (by simp [hc]))
  refine ⟨a :: l,?_,by simp [h4],fun x hx=>?_⟩
  ·rw [List.map_cons,List.map_cons,h3,h1,h5]; rfl
  ·rcases List.mem_cons.1 hx with rfl | hx
   ·exact h2
   ·exact h6 x hx
theorem Zvc {fs:Array Field} {parts:List (List V)} {f0 f1 f2 f3 f4:Field} (hfs:fs=#[f0,f1,f2,f3,f4]) (hl:parts.length=fs.size) (hp:∀ (i:Nat) (f:Field) (cs:List V),fs[i]?=some f→parts[i]?=some cs→Ty P f.type cs) :
  ∃ a b c d e,parts=[a,b,c,d,e]∧Ty P f0.type a∧Ty P f1.type b∧Ty P f2.type c∧Ty P f3.type d∧Ty P f4.type e:=by
 subst hfs
 match parts,hl with
 | [a,b,c,d,e],_=>exact ⟨a,b,c,d,e,rfl,hp 0 f0 a rfl rfl,hp 1 f1 b rfl rfl,hp 2 f2 c rfl rfl,hp 3 f3 d rfl rfl,hp 4 f4 e rfl rfl⟩
theorem parts_4 {fs:Array Field} {parts:List (List V)} {f0 f1 f2 f3:Field} (hfs:fs=#[f0,f1,f2,f3]) (hl:parts.length=fs.size) (hp:∀ (i:Nat) (f:Field) (cs:List V),fs[i]?=some f→parts[i]?=some cs→Ty P f.type cs) :
  ∃ a b c d,parts=[a,b,c,d]∧Ty P f0.type a∧Ty P f1.type b∧Ty P f2.type c∧Ty P f3.type d:=by
 subst hfs
 match parts,hl with
 | [a,b,c,d],_=>exact ⟨a,b,c,d,rfl,hp 0 f0 a rfl rfl,hp 1 f1 b rfl rfl,hp 2 f2 c rfl rfl,hp 3 f3 d rfl rfl⟩
theorem parts_3 {fs:Array Field} {parts:List (List V)} {f0 f1 f2:Field} (hfs:fs=#[f0,f1,f2]) (hl:parts.length=fs.size) (hp:∀ (i:Nat) (f:Field) (cs:List V),fs[i]?=some f→parts[i]?=some cs→Ty P f.type cs) :
  ∃ a b c,parts=[a,b,c]∧Ty P f0.type a∧Ty P f1.type b∧Ty P f2.type c:=by
 subst hfs
 match parts,hl with
 | [a,b,c],_=>exact ⟨a,b,c,rfl,hp 0 f0 a rfl rfl,hp 1 f1 b rfl rfl,hp 2 f2 c rfl rfl⟩
theorem parts_2 {fs:Array Field} {parts:List (List V)} {f0 f1:Field} (hfs:fs=#[f0,f1]) (hl:parts.length=fs.size) (hp:∀ (i:Nat) (f:Field) (cs:List V),fs[i]?=some f→parts[i]?=some cs→Ty P f.type cs) :
  ∃ a b,parts=[a,b]∧Ty P f0.type a∧Ty P f1.type b:=by
 subst hfs
 match parts,hl with
 | [a,b],_=>exact ⟨a,b,rfl,hp 0 f0 a rfl rfl,hp 1 f1 b rfl rfl⟩
structure AstT (P:Program) (tE tEs tS tSs:TypeId) (e0 e1 e2 e3 e4 s0 s1 s2 s3 s4:Field):Prop where
 e:P.underlying tE=some (.struct #[e0,e1,e2,e3,e4])
 ek:P.underlying e0.type=some (.int .i64)
 eo:P.underlying e1.type=some (.int .i64)
 en:P.underlying e2.type=some (.int .u64)
 es:P.underlying e3.type=some .string
 eks:e4.type=tEs
 es2:P.underlying tEs=some (.slice tE)
 s:P.underlying tS=some (.struct #[s0,s1,s2,s3,s4])
 sk:P.underlying s0.type=some (.int .i64)
 sn:P.underlying s1.type=some .string
 se:s2.type=tEs
 sa:s3.type=tSs
 sb:s4.type=tSs
 ss:P.underlying tSs=some (.slice tS)
variable {tE tEs tS tSs:TypeId} {e0 e1 e2 e3 e4 s0 s1 s2 s3 s4:Field}
theorem ty_expr (hT:AstT P tE tEs tS tSs e0 e1 e2 e3 e4 s0 s1 s2 s3 s4) {t:TypeId} {cs:List V} (h:Ty P t cs):(t=tE→∃ e:Exp,cs=e.v.cells∧EOk e)∧(t=tEs→∃ l:List Exp,cs=[.vec (l.map Exp.v) .any]∧l.length ≤ maxLen∧∀ x ∈ l,EOk x):=by
 have hag:=Zeh hT.e
 have uE:=hT.e
 have uEs:=hT.es2
 induction h with
 | bool ht b=>exact ⟨fun e=>(by subst e; rw [uE] at ht; cases ht),fun e=>(by subst e; rw [uEs] at ht; cases ht)⟩
 | int ht n hn=>exact ⟨fun e=>(by subst e; rw [uE] at ht; cases ht),fun e=>(by subst e; rw [uEs] at ht; cases ht)⟩
 | str ht s hs=>exact ⟨fun e=>(by subst e; rw [uE] at ht; cases ht),fun e=>(by subst e; rw [uEs] at ht; cases ht)⟩
 | @slice t e ag ht ha css hc hl ih =>
  refine ⟨fun h=>(by subst h; rw [uE] at ht; cases ht),fun h=>?_⟩
  subst h
  rw [uEs] at ht
  cases ht
  rw [hag] at ha
  cases ha
  obtain ⟨l,h1,h2,h3⟩:=Zpf (f:=Exp.v) (Q:=EOk) (css:=css) (fun cs hcs=>by
   obtain ⟨e,h1,h2⟩:=(ih cs hcs).1 rfl
   exact ⟨e,h1,h2,e.cells,e.v_eq⟩)
  exact ⟨l,by rw [h1],by omega,h3⟩
 | @struct t fs ht parts hl hp ih =>
  refine ⟨fun h=>?_,fun h=>(by subst h; rw [uEs] at ht; cases ht)⟩
  subst h
  rw [uE] at ht
  cases ht
  obtain ⟨a,b,c,d,e,rfl,h0,h1,h2,h3,h4⟩:=Zvc rfl hl hp
  obtain ⟨k,rfl,hk⟩:=Zg0 hT.ek h0
  obtain ⟨o,rfl,ho⟩:=Zg0 hT.eo h1
  obtain ⟨n,rfl,hn⟩:=Zg0 hT.en h2
  obtain ⟨s,rfl,hs⟩:=Zqk hT.es h3
  obtain ⟨m,rfl,hm⟩:=wf_u64 hn
  obtain ⟨l,rfl,hl1,hl2⟩:=(ih 4 e4 _ rfl rfl).2 hT.eks
  refine ⟨.mk k o m s l,?_,.mk (Zi4 hk) (Zi4 ho) hm hs hl1 hl2⟩
  rw [Exp.v_eq]; rfl
 | array ht parts hl hp ih=>exact ⟨fun e=>(by subst e; rw [uE] at ht; cases ht),fun e=>(by subst e; rw [uEs] at ht; cases ht)⟩
theorem ty_stmt (hT:AstT P tE tEs tS tSs e0 e1 e2 e3 e4 s0 s1 s2 s3 s4) {t:TypeId} {cs:List V} (h:Ty P t cs):(t=tS→∃ e:Stm,cs=e.v.cells∧SOk e)∧(t=tSs→∃ l:List Stm,cs=[.vec (l.map Stm.v) .any]∧l.length ≤ maxLen∧∀ x ∈ l,SOk x):=by
 have hag:=Zeh hT.s
 have uE:=hT.s
 have uEs:=hT.ss
 induction h with
 | bool ht b=>exact ⟨fun e=>(by subst e; rw [uE] at ht; cases ht),fun e=>(by subst e; rw [uEs] at ht; cases ht)⟩
 | int ht n hn=>exact ⟨fun e=>(by subst e; rw [uE] at ht; cases ht),fun e=>(by subst e; rw [uEs] at ht; cases ht)⟩
 | str ht s hs=>exact ⟨fun e=>(by subst e; rw [uE] at ht; cases ht),fun e=>(by subst e; rw [uEs] at ht; cases ht)⟩
 | @slice t e ag ht ha css hc hl ih =>
  refine ⟨fun h=>(by subst h; rw [uE] at ht; cases ht),fun h=>?_⟩
  subst h
  rw [uEs] at ht
  cases ht
  rw [hag] at ha
  cases ha
  obtain ⟨l,h1,h2,h3⟩:=Zpf (f:=Stm.v) (Q:=SOk) (css:=css) (fun cs hcs=>by
   obtain ⟨e,h1,h2⟩:=(ih cs hcs).1 rfl
   exact ⟨e,h1,h2,e.cells,e.v_eq⟩)
  exact ⟨l,by rw [h1],by omega,h3⟩
 | @struct t fs ht parts hl hp ih =>
  refine ⟨fun h=>?_,fun h=>(by subst h; rw [uEs] at ht; cases ht)⟩
  subst h
  rw [uE] at ht
  cases ht
  obtain ⟨a,b,c,d,e,rfl,h0,h1,h2,h3,h4⟩:=Zvc rfl hl hp
  obtain ⟨k,rfl,hk⟩:=Zg0 hT.sk h0
  obtain ⟨s,rfl,hs⟩:=Zqk hT.sn h1
  obtain ⟨l,rfl,hl1,hl2⟩:=(ty_expr hT h2).2 hT.se
  obtain ⟨l3,rfl,hl3,hl4⟩:=(ih 3 s3 _ rfl rfl).2 hT.sa
  obtain ⟨l5,rfl,hl5,hl6⟩:=(ih 4 s4 _ rfl rfl).2 hT.sb
  refine ⟨.mk k s l l3 l5,?_,.mk (Zi4 hk) hs hl1 hl3 hl5 hl2 hl4 hl6⟩
  rw [Stm.v_eq]; rfl
 | array ht parts hl hp ih=>exact ⟨fun e=>(by subst e; rw [uE] at ht; cases ht),fun e=>(by subst e; rw [uEs] at ht; cases ht)⟩
theorem ty_in {tI:TypeId} {f0 f1 f2 f3:Field} (hI:P.underlying tI=some (.struct #[f0,f1,f2,f3])) (h0:P.underlying f0.type=some .string) (h1:P.underlying f1.type=some (.int .i64)) (h2:P.underlying f2.type=some (.int .i64)) (h3:P.underlying f3.type=some (.int .i64)) {cs:List V} (h:Ty P tI cs):∃ x:InD,cs=x.v.cells∧InOk x:=by
 obtain ⟨parts,rfl,hl,hp⟩:=Zi7 hI h
 obtain ⟨a,b,c,d,rfl,g0,g1,g2,g3⟩:=parts_4 rfl hl hp
 obtain ⟨s,rfl,hs⟩:=Zqk h0 g0
 obtain ⟨x,rfl,hx⟩:=Zg0 h1 g1
 obtain ⟨y,rfl,hy⟩:=Zg0 h2 g2
 obtain ⟨z,rfl,hz⟩:=Zg0 h3 g3
 exact ⟨⟨s,x,y,z⟩,rfl,⟨Zi4 hx,Zi4 hy,Zi4 hz,hs⟩⟩
theorem ty_ar {tA:TypeId} {f0 f1:Field} (hA:P.underlying tA=some (.struct #[f0,f1])) (h0:P.underlying f0.type=some .string) (h1:P.underlying f1.type=some (.int .i64)) {cs:List V} (h:Ty P tA cs):∃ x:ArD,cs=x.v.cells∧ArOk x:=by
 obtain ⟨parts,rfl,hl,hp⟩:=Zi7 hA h
 obtain ⟨a,b,rfl,g0,g1⟩:=parts_2 rfl hl hp
 obtain ⟨s,rfl,hs⟩:=Zqk h0 g0
 obtain ⟨x,rfl,hx⟩:=Zg0 h1 g1
 exact ⟨⟨s,x⟩,rfl,⟨Zi4 hx,hs⟩⟩
end
end Go.Ab
namespace Go.Ab
theorem Exp.v_mk {k o:Int} {n:Nat} {s:ByteArray} {ks:List Exp}:(Exp.mk k o n s ks).v=.agg [I k,I o,W n,.str s,.vec (ks.map Exp.v) .any]:=Exp.v_eq _
theorem Stm.v_mk {k:Int} {s:ByteArray} {e:List Exp} {a b:List Stm}:(Stm.mk k s e a b).v=.agg [I k,.str s,.vec (e.map Exp.v) .any,.vec (a.map Stm.v) .any,.vec (b.map Stm.v) .any]:=Stm.v_eq _
theorem Exp.v_clen {e:Exp}:e.v.cells.length=5:=by rw [Exp.v_eq]; rfl
theorem Stm.v_clen {e:Stm}:e.v.cells.length=5:=by rw [Stm.v_eq]; rfl
theorem InD.v_clen {e:InD}:e.v.cells.length=4:=rfl
theorem ArD.v_clen {e:ArD}:e.v.cells.length=2:=rfl
theorem Exp.v_tk {e:Exp}:List.take 5 e.v.cells=e.v.cells:=List.take_of_length_le (by rw [Exp.v_clen]; decide)
theorem Stm.v_tk {e:Stm}:List.take 5 e.v.cells=e.v.cells:=List.take_of_length_le (by rw [Stm.v_clen]; decide)
theorem Exp.v_ag {e:Exp}:V.agg e.v.cells=e.v:=by rw [Exp.v_eq]; rfl
theorem Stm.v_ag {e:Stm}:V.agg e.v.cells=e.v:=by rw [Stm.v_eq]; rfl
theorem Exp.v_out {e:Exp}:e.v.out=some e.v:=by rw [Exp.v_eq]; rfl
theorem Stm.v_out {e:Stm}:e.v.out=some e.v:=by rw [Stm.v_eq]; rfl
theorem InD.v_out {e:InD}:e.v.out=some e.v:=rfl
theorem ArD.v_out {e:ArD}:e.v.out=some e.v:=rfl
theorem Prg.v_out {e:Prg}:e.v.out=some e.v:=rfl
theorem Exp.v_cells {e:Exp}:e.v.cells=[I e.kind,I e.op,W e.num,.str e.name,.vec (e.kids.map Exp.v) .any]:=by rw [Exp.v_eq]; rfl
theorem Stm.v_cells {e:Stm}:e.v.cells=[I e.kind,.str e.name,.vec (e.e.map Exp.v) .any,.vec (e.thn.map Stm.v) .any,.vec (e.els.map Stm.v) .any]:=by rw [Stm.v_eq]; rfl
theorem InD.v_cells {e:InD}:e.v.cells=[.str e.name,I e.frm,I e.width,I e.size]:=rfl
theorem ArD.v_cells {e:ArD}:e.v.cells=[.str e.name,I e.size]:=rfl
theorem storeE {st:S} {k:Nat} {e:Exp}:Zad st (.lptr k 5 0) e.v 5=some { st with m:=upd st.m k (some e.v.cells) }:=by rw [Exp.v_eq]; rfl
theorem Zun {st:S} {k:Nat} {e:Stm}:Zad st (.lptr k 5 0) e.v 5=some { st with m:=upd st.m k (some e.v.cells) }:=by rw [Stm.v_eq]; rfl
theorem Exp.v_outs {e:Exp}:outs e.v.cells=some e.v.cells:=by rw [Exp.v_eq]; rfl
theorem Stm.v_outs {e:Stm}:outs e.v.cells=some e.v.cells:=by rw [Stm.v_eq]; rfl
theorem Za5 {α:Type} {f:α→V} {l:List α} {i:Nat} (hi:i < l.length):(l.map f)[i]?=some (f l[i]):=by rw [List.getElem?_map,List.getElem?_eq_getElem hi]; rfl
theorem beqS {x y:ByteArray}:(x == y)=decide (x=y):=by
 rcases x with ⟨a⟩
 rcases y with ⟨b⟩
 show (a == b)=_
 by_cases h:a=b
 ·subst h; simp
 ·rw [decide_eq_false (by simpa using h)]
  simpa using h
theorem wiM {i:Nat} (h:i < 9223372036854775807):IntKind.i64.wrap ((i:Int) + 1)=((i + 1:Nat):Int):=by rw [wrap_i64] <;> omega
theorem bneS {x y:ByteArray}:(x != y)=!decide (x=y):=by rw [bne,beqS]
def Zdx (c:Int):Bool:=(decide (97 ≤ c) && decide (c ≤ 122)) || (decide (65 ≤ c) && decide (c ≤ 90))
def Zj4 (c:Int):Bool:=decide (48 ≤ c) && decide (c ≤ 57)
def Zso (d:Bool) (c:UInt8):Bool:=Zj4 c.toNat || (!d && (Zdx c.toNat || decide (((c.toNat:Nat):Int)=95)))
def Zl5 (d:Bool) (l:List UInt8):Nat:=(l.takeWhile (Zso d)).length
def words26:List ByteArray:=[⟨#[105,110]⟩,⟨#[102,114,111,109]⟩,⟨#[97,114,114,97,121]⟩,⟨#[105,102]⟩,⟨#[101,108,115,101]⟩,⟨#[102,111,114]⟩,⟨#[116,111]⟩,⟨#[111,117,116]⟩]
def Zgg (s:ByteArray):Prop:=1 ≤ s.size∧s.size ≤ 20∧(∃ c r,s.data.toList=c :: r∧Zdx c.toNat=true)∧Zl5 false s.data.toList=s.size∧s ∉ words26
theorem Zg5 {s:ByteArray}:s.data.toList.length=s.size:=Array.length_toList ..
namespace YtihjhelbdbeokaaGreatDoor
section
variable {h:H} {K:Out→H→Prop}
theorem Zgt {c:Nat} (hK:K (.ret (.bool (Zdx c))) h):R 78 [.int .u8 c,] h K:=by
 refine run78 (Nat.le_of_ble_eq_true rfl) ?_
 by_cases a:(97:Int) ≤ c <;> by_cases b:(c:Int) ≤ 122 <;> by_cases d:(65:Int) ≤ c <;> by_cases e:(c:Int) ≤ 90
 all_goals
  simp -dsimp -implicitDefEqProofs only [↓STP,STQ,seval,ir78,a,b,d,e]
  simpa [Zdx,a,b,d,e] using hK
theorem Zh9 {c:Nat} (hK:K (.ret (.bool (Zj4 c))) h):R 106 [.int .u8 c] h K:=by
 refine run106 (Nat.le_of_ble_eq_true rfl) ?_
 by_cases a:(48:Int) ≤ c <;> by_cases b:(c:Int) ≤ 57
 all_goals
  simp -dsimp -implicitDefEqProofs only [↓STP,STQ,seval,ir106,a,b]
  simpa [Zj4,a,b] using hK
theorem Zly {p:UInt8→Bool} {l:List UInt8} {i:Nat} (hi:i < (l.takeWhile p).length):∃ c,l[i]?=some c∧p c=true:=by
 induction l generalizing i with
 | nil=>simp at hi
 | cons a l ih =>
  by_cases ha:p a=true
  ·rw [List.takeWhile_cons_of_pos ha] at hi
   cases i with
   | zero=>exact ⟨a,rfl,ha⟩
   | succ i=>exact ih (by simpa using hi)
  ·rw [List.takeWhile_cons_of_neg ha] at hi; simp at hi
theorem Zlz {p:UInt8→Bool} {l:List UInt8}:(l.takeWhile p).length=l.length∨∃ c,l[(l.takeWhile p).length]?=some c∧p c=false∧(l.takeWhile p).length < l.length:=by
 induction l with
 | nil=>exact .inl rfl
 | cons a l ih =>
  by_cases ha:p a=true
  ·rw [List.takeWhile_cons_of_pos ha]
   rcases ih with h | ⟨c,h1,h2,h3⟩
   ·exact .inl (by simp [h])
   ·exact .inr ⟨c,by simpa using h1,h2,by simpa using h3⟩
  ·rw [List.takeWhile_cons_of_neg ha]
   exact .inr ⟨a,rfl,by simpa using ha,by simp⟩
theorem Zvs {s:ByteArray} {d:Bool} (hs:s.size ≤ maxLen) (hK:K (.ret (I (Zl5 d s.data.toList:Nat))) h):R 79 [.str s,.bool d] h K:=by
 refine run79 (Nat.le_of_ble_eq_true rfl) ?_
 have hmx:maxLen ≤ 9223372036854775807:=by decide
 have hle:Zl5 d s.data.toList ≤ s.size:=by rw [← Zg5]; exact List.Sublist.length_le (List.takeWhile_sublist _)
 simp -dsimp -implicitDefEqProofs only [↓STP,STQ,seval,ir79]
 refine Zao (N:=Zl5 d s.data.toList) (fun i=>⟨upd (upd (upd ρ0 0 (.str s)) 1 (.bool d)) 5 (I i),m0,0,[],h⟩) (fun _=>True) (by simp -dsimp -implicitDefEqProofs only [↓STP,STQ,seval] <;> rfl) trivial (fun i hi _=>?_) (fun _=>?_) mono
 ·obtain ⟨c,hc,hp⟩:=Zly hi
  have hlt:i < s.size:=by omega
  have w1:=wiM (show i < 9223372036854775807 by omega)
  by_cases a:Zj4 c.toNat=true
  ·simp -dsimp -implicitDefEqProofs only [↓STP,STQ,seval,Int.ofNat_lt,hlt,hc]
   refine Zh9 ?_
   simp -dsimp -implicitDefEqProofs only [↓STP,STQ,seval,a,w1]
  ·have a':Zj4 c.toNat=false:=by simpa using a
   have hd:d=false:=by
    cases d with
    | false=>rfl
    | true=>rw [Zso,a'] at hp; simp at hp
   subst hd
   simp -dsimp -implicitDefEqProofs only [↓STP,STQ,seval,Int.ofNat_lt,hlt,hc]
   refine Zh9 ?_
   simp -dsimp -implicitDefEqProofs only [↓STP,STQ,seval,a',hc]
   refine Zgt ?_
   by_cases b:Zdx c.toNat=true
   ·simp -dsimp -implicitDefEqProofs only [↓STP,STQ,seval,b,w1]
   ·have b':Zdx c.toNat=false:=by simpa using b
    have e:((c.toNat:Nat):Int)=95:=by
     rw [Zso,a',b'] at hp
     simpa using hp
    simp -dsimp -implicitDefEqProofs only [↓STP,STQ,seval,b',hc,eq_true e,w1]
 ·rcases Zlz (p:=Zso d) (l:=s.data.toList) with he | ⟨c,hc,hp,hlt⟩
  ·rw [Zg5] at he
   simp -dsimp -implicitDefEqProofs only [↓STP,STQ,seval,Int.ofNat_lt,Zl5,he,Nat.lt_irrefl]
   rw [Zl5,he] at hK
   exact hK
  ·rw [Zg5] at hlt
   have hlt':Zl5 d s.data.toList < s.size:=hlt
   have hc':s.data.toList[Zl5 d s.data.toList]?=some c:=hc
   have a':Zj4 c.toNat=false:=by
    cases hh:Zj4 c.toNat with
    | false=>rfl
    | true=>rw [Zso,hh] at hp; simp at hp
   simp -dsimp -implicitDefEqProofs only [↓STP,STQ,seval,Int.ofNat_lt,hlt',hc']
   refine Zh9 ?_
   cases d with
   | true =>
    simp -dsimp -implicitDefEqProofs only [↓STP,STQ,seval,a']
    exact hK
   | false =>
    rw [Zso,a'] at hp
    have b':Zdx c.toNat=false:=by
     cases hh:Zdx c.toNat with
     | false=>rfl
     | true=>rw [hh] at hp; simp at hp
    have e:¬ ((c.toNat:Nat):Int)=95:=by
     rw [b'] at hp
     simpa using hp
    simp -dsimp -implicitDefEqProofs only [↓STP,STQ,seval,a',hc']
    refine Zgt ?_
    simp -dsimp -implicitDefEqProofs only [↓STP,STQ,seval,b',hc',eq_false e]
    exact hK
theorem Zt7 {s:ByteArray} (hK:∀ b:Bool,(b=true ↔ s ∈ words26)→K (.ret (.bool b)) h):R 80 [.str s] h K:=by
 refine run80 (Nat.le_of_ble_eq_true rfl) ?_
 simp -dsimp -implicitDefEqProofs only [↓STP,STQ,seval,ir80]
 refine Zao (N:=8) (fun i=>⟨upd (upd (upd ρ0 0 (.str s)) 3 (.vec (words26.map V.str) (.own 0))) 4 (I i),m0,1,[],h⟩) (fun i=>s ∉ words26.take i) (by simp -dsimp -implicitDefEqProofs only [↓STP,STQ,seval] <;> rfl) (by simp) (fun i hi hp=>?_) (fun hp=>?_) mono
 ·have hget:(words26.map V.str)[i]?=some (.str (words26[i]'hi)):=Za5 hi
  have hlen:((i:Nat):Int) < (words26.map V.str).length:=by rw [List.length_map]; show (i:Int) < (8:Nat); omega
  by_cases e:s=words26[i]'hi
  ·simp -dsimp -implicitDefEqProofs only [↓STP,STQ,seval,eq_true hlen,hget,binS,beqS,eq_true e]
   refine hK true ⟨fun _=>?_,fun _=>rfl⟩
   rw [e]; exact List.getElem_mem _
  ·simp -dsimp -implicitDefEqProofs only [↓STP,STQ,seval,eq_true hlen,hget,binS,beqS,eq_false e,wi (show i < 9000000000000000000 by omega)]
   rw [List.take_add_one,List.getElem?_eq_getElem (show i < words26.length from hi)]
   intro hm
   rcases List.mem_append.1 hm with hm | hm
   ·exact hp hm
   ·simp at hm; exact e hm
 ·have hlen:¬ ((8:Nat):Int) < (words26.map V.str).length:=by rw [List.length_map]; exact Int.lt_irrefl _
  simp -dsimp -implicitDefEqProofs only [↓STP,STQ,seval,List.length_map]
  refine hK false (iff_of_false (by simp) fun hm=>?_)
  exact absurd hm (by rw [List.take_of_length_le (Nat.le_refl 8)] at hp; exact hp)
theorem Zcf {s:ByteArray} (hs:s.size ≤ maxLen) (hK:∀ b:Bool,(b=true ↔ Zgg s)→K (.ret (.bool b)) h):R 45 [.str s] h K:=by
 refine run45 (Nat.le_of_ble_eq_true rfl) ?_
 have no:¬ Zgg s→K (.ret (.bool false)) h:=fun hn=>hK false (iff_of_false (by simp) hn)
 by_cases a:(1:Int) ≤ (s.size:Int)
 rotate_left
 ·simp -dsimp -implicitDefEqProofs only [↓STP,STQ,seval,ir45,a]
  exact no fun h=>a (by have:=h.1; omega)
 by_cases b:(s.size:Int) ≤ 20
 rotate_left
 ·simp -dsimp -implicitDefEqProofs only [↓STP,STQ,seval,ir45,a,b]
  exact no fun h=>b (by have:=h.2.1; omega)
 obtain ⟨c,r,hcr⟩:∃ c r,s.data.toList=c :: r:=by
  cases hl:s.data.toList with
  | nil=>have:=Zg5 (s:=s); rw [hl] at this; simp at this; omega
  | cons c r=>exact ⟨c,r,rfl⟩
 have hget:s.data.toList[0]?=some c:=by rw [hcr]; rfl
 simp -dsimp -implicitDefEqProofs only [↓STP,STQ,seval,ir45,a,b,hget]
 refine Zgt ?_
 by_cases d:Zdx c.toNat=true
 rotate_left
 ·have d':Zdx c.toNat=false:=by simpa using d
  simp -dsimp -implicitDefEqProofs only [↓STP,STQ,seval,d']
  refine no fun h=>?_
  obtain ⟨c',r',h1,h2⟩:=h.2.2.1
  rw [hcr] at h1
  cases h1
  exact d h2
 simp -dsimp -implicitDefEqProofs only [↓STP,STQ,seval,d]
 refine Zvs hs ?_
 by_cases e:((Zl5 false s.data.toList:Nat):Int)=(s.size:Int)
 rotate_left
 ·simp -dsimp -implicitDefEqProofs only [↓STP,STQ,seval,eq_false e]
  exact no fun h=>e (by rw [h.2.2.2.1])
 simp -dsimp -implicitDefEqProofs only [↓STP,STQ,seval,eq_true e]
 refine Zt7 fun w hw=>?_
 cases w with
 | true =>
  simp -dsimp -implicitDefEqProofs only [↓STP,STQ,seval]
  exact no fun h=>h.2.2.2.2 (hw.1 rfl)
 | false =>
  simp -dsimp -implicitDefEqProofs only [↓STP,STQ,seval]
  exact hK true (iff_of_true rfl ⟨by omega,by omega,⟨c,r,hcr,d⟩,by omega,fun hm=>by have:=hw.2 hm; cases this⟩)
end
end YtihjhelbdbeokaaGreatDoor
end Go.Ab
namespace Go.Ab
def Zb3 (k:Int):Int:=if k=1∨k=2 then 0 else if k=3∨k=5 then 1 else if k=4 then 2 else if k=6 then 3 else -1
def Zgf:ByteArray:=⟨#[]⟩
mutual
def VE:Exp→Nat→Prop
 | .mk k o n s ks,lv=>lv ≤ 24∧Zb3 k=ks.length∧((k=2∨k=3)→Zgg s)∧(¬ (k=2∨k=3)→s=Zgf)∧(k=4→1 ≤ o∧o ≤ 7)∧(k ≠ 4→o=0)∧n ≤ 1152921504606846975∧(k ≠ 1→n=0)∧VEs ks (lv + 1)
def VEs:List Exp→Nat→Prop
 | [],_=>True
 | e :: es,lv=>VE e lv∧VEs es lv
end
theorem Zp9:∀ {l:List Exp} {lv:Nat},VEs l lv ↔ ∀ x ∈ l,VE x lv
 | [],lv=>by simp [VEs]
 | e :: es,lv=>by simp [VEs,Zp9]
theorem VE_mk {k o:Int} {n:Nat} {s:ByteArray} {ks:List Exp} {lv:Nat}:VE (.mk k o n s ks) lv ↔ (lv ≤ 24∧Zb3 k=ks.length∧((k=2∨k=3)→Zgg s)∧(¬ (k=2∨k=3)→s=Zgf)∧(k=4→1 ≤ o∧o ≤ 7)∧(k ≠ 4→o=0)∧n ≤ 1152921504606846975∧(k ≠ 1→n=0)∧∀ x ∈ ks,VE x (lv + 1)):=by
 rw [VE,Zp9]
mutual
def VS:Stm→Nat→Prop
 | .mk k s e a b,lv=>lv ≤ 24∧1 ≤ k∧k ≤ 5∧e.length=(if k=2∨k=4 then 2 else 1)∧((k ≠ 3∧k ≠ 5)→Zgg s)∧(¬ (k ≠ 3∧k ≠ 5)→s=Zgf)∧(k ≠ 3→b=[])∧(k ≠ 3→k ≠ 4→a=[])∧VEs e (lv + 1)∧VSs a (lv + 1)∧VSs b (lv + 1)
def VSs:List Stm→Nat→Prop
 | [],_=>True
 | e :: es,lv=>VS e lv∧VSs es lv
end
theorem VSs_all:∀ {l:List Stm} {lv:Nat},VSs l lv ↔ ∀ x ∈ l,VS x lv
 | [],lv=>by simp [VSs]
 | e :: es,lv=>by simp [VSs,VSs_all]
theorem VS_mk {k:Int} {s:ByteArray} {e:List Exp} {a b:List Stm} {lv:Nat}:VS (.mk k s e a b) lv ↔ (lv ≤ 24∧1 ≤ k∧k ≤ 5∧e.length=(if k=2∨k=4 then 2 else 1)∧((k ≠ 3∧k ≠ 5)→Zgg s)∧(¬ (k ≠ 3∧k ≠ 5)→s=Zgf)∧(k ≠ 3→b=[])∧(k ≠ 3→k ≠ 4→a=[])∧(∀ x ∈ e,VE x (lv + 1))∧VSs a (lv + 1)∧VSs b (lv + 1)):=by
 rw [VS,Zp9]
theorem Zlt {k o:Int} {n:Nat} {s:ByteArray} {ks:List Exp} (h:EOk (.mk k o n s ks)):I64 k∧I64 o∧n < 18446744073709551616∧s.size ≤ maxLen∧ks.length ≤ maxLen∧∀ x ∈ ks,EOk x:=by
 cases h with
 | mk a b c d e f=>exact ⟨a,b,c,d,e,f⟩
theorem Ziq {k:Int} {s:ByteArray} {e:List Exp} {a b:List Stm} (h:SOk (.mk k s e a b)):I64 k∧s.size ≤ maxLen∧e.length ≤ maxLen∧a.length ≤ maxLen∧b.length ≤ maxLen∧(∀ x ∈ e,EOk x)∧(∀ x ∈ a,SOk x)∧∀ x ∈ b,SOk x:=by
 cases h with
 | mk a1 a2 a3 a4 a5 a6 a7 a8=>exact ⟨a1,a2,a3,a4,a5,a6,a7,a8⟩
theorem Za4:maxLen=9223372036854775807:=by decide
namespace YtihjhelbdbeokaaGreatDoor
section
variable {h:H} {K:Out→H→Prop}
theorem Zvx {e:Exp} (hK:K (.ret (I (Zb3 e.kind))) h):R 125 [e.v] h K:=by
 obtain ⟨k,o,n,s,ks⟩:=e
 refine run125 (Nat.le_of_ble_eq_true rfl) ?_
 by_cases c1:k=1
 ·simp -dsimp -implicitDefEqProofs only [↓STP,STQ,seval,Exp.v_mk,ir125,eq_true c1]
  simpa [Exp.kind,Zb3,c1] using hK
 by_cases c2:k=2
 ·simp -dsimp -implicitDefEqProofs only [↓STP,STQ,seval,Exp.v_mk,ir125,eq_false c1,eq_true c2]
  simpa [Exp.kind,Zb3,c2] using hK
 by_cases c3:k=3
 ·simp -dsimp -implicitDefEqProofs only [↓STP,STQ,seval,Exp.v_mk,ir125,eq_false c1,eq_false c2,eq_true c3]
  simpa [Exp.kind,Zb3,c3] using hK
 by_cases c5:k=5
 ·simp -dsimp -implicitDefEqProofs only [↓STP,STQ,seval,Exp.v_mk,ir125,eq_false c1,eq_false c2,eq_false c3,eq_true c5]
  simpa [Exp.kind,Zb3,c5] using hK
 by_cases c4:k=4
 ·simp -dsimp -implicitDefEqProofs only [↓STP,STQ,seval,Exp.v_mk,ir125,eq_false c1,eq_false c2,eq_false c3,eq_false c5,eq_true c4]
  simpa [Exp.kind,Zb3,c4] using hK
 by_cases c6:k=6
 ·simp -dsimp -implicitDefEqProofs only [↓STP,STQ,seval,Exp.v_mk,ir125,eq_false c1,eq_false c2,eq_false c3,eq_false c5,eq_false c4,eq_true c6]
  simpa [Exp.kind,Zb3,c6] using hK
 simp -dsimp -implicitDefEqProofs only [↓STP,STQ,seval,Exp.v_mk,ir125,eq_false c1,eq_false c2,eq_false c3,eq_false c5,eq_false c4,eq_false c6]
 simpa [Exp.kind,Zb3,c1,c2,c3,c4,c5,c6] using hK
theorem Znx (e:Exp):∀ (lv:Nat) (h:H) (K:Out→H→Prop),EOk e→lv ≤ 100→(∀ b:Bool,(b=true ↔ VE e lv)→K (.ret (.bool b)) h)→R 107 [e.v,I lv] h K:=by
 induction e using Exp.ind with
 | h k o n s ks ih =>
  intro lv h K ok hlv hK
  obtain ⟨hk,ho,hn,hs,hl,hks⟩:=Zlt ok
  have no:¬ VE (.mk k o n s ks) lv→K (.ret (.bool false)) h:=fun hn=>hK false (iff_of_false (by simp) hn)
  refine run107 (Nat.le_of_ble_eq_true rfl) ?_
  by_cases a:(24:Int) < (lv:Int)
  ·simp -dsimp -implicitDefEqProofs only [↓STP,STQ,seval,Exp.v_mk,ir107,a]
   exact no fun h=>by have:=(VE_mk.1 h).1; omega
  have kd:=@Zvx h
  by_cases c:Zb3 k=(ks.length:Int)
  rotate_left
  ·simp -dsimp -implicitDefEqProofs only [↓STP,STQ,seval,Exp.v_mk,ir107,a]
   rw [← Exp.v_mk]
   refine Zvx ?_
   simp -dsimp -implicitDefEqProofs only [↓STP,STQ,seval,Exp.v_mk,Exp.kind,List.length_map,eq_false c]
   exact no fun h=>c (VE_mk.1 h).2.1
  have kk:k=1∨k=2∨k=3∨k=4∨k=5∨k=6:=by
   unfold Zb3 at c
   split at c
   ·omega
   ·split at c
    ·omega
    ·split at c
     ·omega
     ·split at c <;> omega
  simp -dsimp -implicitDefEqProofs only [↓STP,STQ,seval,Exp.v_mk,ir107,a]
  rw [← Exp.v_mk]
  refine Zvx ?_
  have wl:IntKind.i64.wrap ((lv:Int) + 1)=((lv + 1:Nat):Int):=wi (by omega)
  have names:(k=2∨k=3)→Zgg s∨K (.ret (.bool false)) h:=fun hk=>by
   by_cases hh:Zgg s
   ·exact .inl hh
   ·exact .inr (no fun h=>hh ((VE_mk.1 h).2.2.1 hk))
  have numb:k ≠ 1→n=0∨K (.ret (.bool false)) h:=fun hk=>by
   by_cases hh:n=0
   ·exact .inl hh
   ·exact .inr (no fun h=>hh ((VE_mk.1 h).2.2.2.2.2.2.2.1 hk))
  rcases kk with rfl | rfl | rfl | rfl | rfl | rfl
  ·by_cases hnm:s=Zgf
   rotate_left
   ·simp -dsimp -implicitDefEqProofs only [↓STP,STQ,seval,Exp.v_mk,Exp.kind,List.length_map,eq_true c,binS,bneS,eq_false (show ¬ s=⟨#[]⟩ from hnm)]
    exact no fun h=>hnm ((VE_mk.1 h).2.2.2.1 (by decide))
   by_cases ho0:o=0
   rotate_left
   ·simp -dsimp -implicitDefEqProofs only [↓STP,STQ,seval,Exp.v_mk,Exp.kind,List.length_map,eq_true c,binS,bneS,eq_true (show s=⟨#[]⟩ from hnm),eq_false ho0]
    exact no fun h=>ho0 ((VE_mk.1 h).2.2.2.2.2.1 (by decide))
   by_cases cn:(1152921504606846975:Int) < (n:Int)
   ·simp -dsimp -implicitDefEqProofs only [↓STP,STQ,seval,Exp.v_mk,Exp.kind,List.length_map,eq_true c,binS,bneS,eq_true (show s=⟨#[]⟩ from hnm),eq_true ho0,eq_true cn]
    exact no fun h=>by have:=(VE_mk.1 h).2.2.2.2.2.2.1; omega
   simp -dsimp -implicitDefEqProofs only [↓STP,STQ,seval,Exp.v_mk,Exp.kind,List.length_map,eq_true c,binS,bneS,eq_true (show s=⟨#[]⟩ from hnm),eq_true ho0,eq_false cn]
   refine Zao (N:=ks.length) (fun i=>⟨upd (upd (upd ρ0 1 (I lv)) 2 (.lptr 0 5 0)) 6 (I i),upd m0 0 (some [I 1,I o,W n,.str s,.vec (ks.map Exp.v) .any]),1,[],h⟩) (fun i=>∀ x ∈ ks.take i,VE x (lv + 1)) (by simp -dsimp -implicitDefEqProofs only [↓STP,STQ,seval] <;> rfl) (by simp) (fun i hi hp=>?_) (fun hp=>?_) mono
   ·simp -dsimp -implicitDefEqProofs only [↓STP,STQ,seval,List.length_map,Int.ofNat_lt,hi,Za5 hi,Exp.v_clen,Exp.v_tk,Exp.v_ag,Exp.v_out,wl]
    refine ih _ (List.getElem_mem hi) (lv + 1) h _ (hks _ (List.getElem_mem hi)) (by omega) fun b hb=>?_
    cases b with
    | false =>
     simp -dsimp -implicitDefEqProofs only [↓STP,STQ,seval]
     exact no fun h=>by have:=hb.2 ((VE_mk.1 h).2.2.2.2.2.2.2.2 _ (List.getElem_mem hi)); cases this
    | true =>
     simp -dsimp -implicitDefEqProofs only [↓STP,STQ,seval,wiM (show i < 9223372036854775807 by have:=Za4; omega)]
     intro x hx
     rw [List.take_add_one,List.getElem?_eq_getElem hi] at hx
     rcases List.mem_append.1 hx with hx | hx
     ·exact hp x hx
     ·simp at hx; subst hx; exact hb.1 rfl
   ·simp -dsimp -implicitDefEqProofs only [↓STP,STQ,seval,List.length_map,Int.lt_irrefl]
    rw [List.take_length] at hp
    exact hK true (iff_of_true rfl (VE_mk.2 ⟨by omega,c,fun h=>by omega,fun _=>hnm,fun h=>by omega,fun _=>ho0,by omega,fun h=>absurd rfl h,hp⟩))
  ·simp -dsimp -implicitDefEqProofs only [↓STP,STQ,seval,Exp.v_mk,Exp.kind,List.length_map,eq_true c]
   refine Zcf hs fun b hb=>?_
   cases b with
   | false =>
    simp -dsimp -implicitDefEqProofs only [↓STP,STQ,seval]
    exact no fun h=>by have:=hb.2 ((VE_mk.1 h).2.2.1 (by decide)); cases this
   | true =>
    have hnm:=hb.1 rfl
    by_cases ho0:o=0
    rotate_left
    ·simp -dsimp -implicitDefEqProofs only [↓STP,STQ,seval,eq_false ho0]
     exact no fun h=>ho0 ((VE_mk.1 h).2.2.2.2.2.1 (by decide))
    by_cases cn:(1152921504606846975:Int) < (n:Int)
    ·simp -dsimp -implicitDefEqProofs only [↓STP,STQ,seval,eq_true ho0,eq_true cn]
     exact no fun h=>by have:=(VE_mk.1 h).2.2.2.2.2.2.1; omega
    by_cases cz:(n:Int)=0
    rotate_left
    ·simp -dsimp -implicitDefEqProofs only [↓STP,STQ,seval,eq_true ho0,eq_false cn,eq_false cz]
     exact no fun h=>by have:=(VE_mk.1 h).2.2.2.2.2.2.2.1 (by decide); omega
    simp -dsimp -implicitDefEqProofs only [↓STP,STQ,seval,eq_true ho0,eq_false cn,eq_true cz]
    refine Zao (N:=ks.length) (fun i=>⟨upd (upd (upd ρ0 1 (I lv)) 2 (.lptr 0 5 0)) 6 (I i),upd m0 0 (some [I 2,I o,W n,.str s,.vec (ks.map Exp.v) .any]),1,[],h⟩) (fun i=>∀ x ∈ ks.take i,VE x (lv + 1)) (by simp -dsimp -implicitDefEqProofs only [↓STP,STQ,seval] <;> rfl) (by simp) (fun i hi hp=>?_) (fun hp=>?_) mono
    ·simp -dsimp -implicitDefEqProofs only [↓STP,STQ,seval,List.length_map,Int.ofNat_lt,hi,Za5 hi,Exp.v_clen,Exp.v_tk,Exp.v_ag,Exp.v_out,wl]
     refine ih _ (List.getElem_mem hi) (lv + 1) h _ (hks _ (List.getElem_mem hi)) (by omega) fun b hb=>?_
     cases b with
     | false =>
      simp -dsimp -implicitDefEqProofs only [↓STP,STQ,seval]
      exact no fun h=>by have:=hb.2 ((VE_mk.1 h).2.2.2.2.2.2.2.2 _ (List.getElem_mem hi)); cases this
     | true =>
      simp -dsimp -implicitDefEqProofs only [↓STP,STQ,seval,wiM (show i < 9223372036854775807 by have:=Za4; omega)]
      intro x hx
      rw [List.take_add_one,List.getElem?_eq_getElem hi] at hx
      rcases List.mem_append.1 hx with hx | hx
      ·exact hp x hx
      ·simp at hx; subst hx; exact hb.1 rfl
    ·simp -dsimp -implicitDefEqProofs only [↓STP,STQ,seval,List.length_map,Int.lt_irrefl]
     rw [List.take_length] at hp
     exact hK true (iff_of_true rfl (VE_mk.2 ⟨by omega,c,fun _=>hnm,fun h=>absurd h (by simp),fun h=>by omega,fun _=>ho0,by omega,fun _=>by omega,hp⟩))
  ·simp -dsimp -implicitDefEqProofs only [↓STP,STQ,seval,Exp.v_mk,Exp.kind,List.length_map,eq_true c]
   refine Zcf hs fun b hb=>?_
   cases b with
   | false =>
    simp -dsimp -implicitDefEqProofs only [↓STP,STQ,seval]
    exact no fun h=>by have:=hb.2 ((VE_mk.1 h).2.2.1 (by decide)); cases this
   | true =>
    have hnm:=hb.1 rfl
    by_cases ho0:o=0
    rotate_left
    ·simp -dsimp -implicitDefEqProofs only [↓STP,STQ,seval,eq_false ho0]
     exact no fun h=>ho0 ((VE_mk.1 h).2.2.2.2.2.1 (by decide))
    by_cases cn:(1152921504606846975:Int) < (n:Int)
    ·simp -dsimp -implicitDefEqProofs only [↓STP,STQ,seval,eq_true ho0,eq_true cn]
     exact no fun h=>by have:=(VE_mk.1 h).2.2.2.2.2.2.1; omega
    by_cases cz:(n:Int)=0
    rotate_left
    ·simp -dsimp -implicitDefEqProofs only [↓STP,STQ,seval,eq_true ho0,eq_false cn,eq_false cz]
     exact no fun h=>by have:=(VE_mk.1 h).2.2.2.2.2.2.2.1 (by decide); omega
    simp -dsimp -implicitDefEqProofs only [↓STP,STQ,seval,eq_true ho0,eq_false cn,eq_true cz]
    refine Zao (N:=ks.length) (fun i=>⟨upd (upd (upd ρ0 1 (I lv)) 2 (.lptr 0 5 0)) 6 (I i),upd m0 0 (some [I 3,I o,W n,.str s,.vec (ks.map Exp.v) .any]),1,[],h⟩) (fun i=>∀ x ∈ ks.take i,VE x (lv + 1)) (by simp -dsimp -implicitDefEqProofs only [↓STP,STQ,seval] <;> rfl) (by simp) (fun i hi hp=>?_) (fun hp=>?_) mono
    ·simp -dsimp -implicitDefEqProofs only [↓STP,STQ,seval,List.length_map,Int.ofNat_lt,hi,Za5 hi,Exp.v_clen,Exp.v_tk,Exp.v_ag,Exp.v_out,wl]
     refine ih _ (List.getElem_mem hi) (lv + 1) h _ (hks _ (List.getElem_mem hi)) (by omega) fun b hb=>?_
     cases b with
     | false =>
      simp -dsimp -implicitDefEqProofs only [↓STP,STQ,seval]
      exact no fun h=>by have:=hb.2 ((VE_mk.1 h).2.2.2.2.2.2.2.2 _ (List.getElem_mem hi)); cases this
     | true =>
      simp -dsimp -implicitDefEqProofs only [↓STP,STQ,seval,wiM (show i < 9223372036854775807 by have:=Za4; omega)]
      intro x hx
      rw [List.take_add_one,List.getElem?_eq_getElem hi] at hx
      rcases List.mem_append.1 hx with hx | hx
      ·exact hp x hx
      ·simp at hx; subst hx; exact hb.1 rfl
    ·simp -dsimp -implicitDefEqProofs only [↓STP,STQ,seval,List.length_map,Int.lt_irrefl]
     rw [List.take_length] at hp
     exact hK true (iff_of_true rfl (VE_mk.2 ⟨by omega,c,fun _=>hnm,fun h=>absurd h (by simp),fun h=>by omega,fun _=>ho0,by omega,fun _=>by omega,hp⟩))
  ·by_cases hnm:s=Zgf
   rotate_left
   ·simp -dsimp -implicitDefEqProofs only [↓STP,STQ,seval,Exp.v_mk,Exp.kind,List.length_map,eq_true c,binS,bneS,eq_false (show ¬ s=⟨#[]⟩ from hnm)]
    exact no fun h=>hnm ((VE_mk.1 h).2.2.2.1 (by decide))
   by_cases co:o < 1
   ·simp -dsimp -implicitDefEqProofs only [↓STP,STQ,seval,Exp.v_mk,Exp.kind,List.length_map,eq_true c,binS,bneS,eq_true (show s=⟨#[]⟩ from hnm),eq_true co]
    exact no fun h=>by have:=(VE_mk.1 h).2.2.2.2.1 rfl; omega
   by_cases cp:7 < o
   ·simp -dsimp -implicitDefEqProofs only [↓STP,STQ,seval,Exp.v_mk,Exp.kind,List.length_map,eq_true c,binS,bneS,eq_true (show s=⟨#[]⟩ from hnm),eq_false co,eq_true cp]
    exact no fun h=>by have:=(VE_mk.1 h).2.2.2.2.1 rfl; omega
   by_cases cn:(1152921504606846975:Int) < (n:Int)
   ·simp -dsimp -implicitDefEqProofs only [↓STP,STQ,seval,Exp.v_mk,Exp.kind,List.length_map,eq_true c,binS,bneS,eq_true (show s=⟨#[]⟩ from hnm),eq_false co,eq_false cp,eq_true cn]
    exact no fun h=>by have:=(VE_mk.1 h).2.2.2.2.2.2.1; omega
   by_cases cz:(n:Int)=0
   rotate_left
   ·simp -dsimp -implicitDefEqProofs only [↓STP,STQ,seval,Exp.v_mk,Exp.kind,List.length_map,eq_true c,binS,bneS,eq_true (show s=⟨#[]⟩ from hnm),eq_false co,eq_false cp,eq_false cn,eq_false cz]
    exact no fun h=>by have:=(VE_mk.1 h).2.2.2.2.2.2.2.1 (by decide); omega
   simp -dsimp -implicitDefEqProofs only [↓STP,STQ,seval,Exp.v_mk,Exp.kind,List.length_map,eq_true c,binS,bneS,eq_true (show s=⟨#[]⟩ from hnm),eq_false co,eq_false cp,eq_false cn,eq_true cz]
   refine Zao (N:=ks.length) (fun i=>⟨upd (upd (upd ρ0 1 (I lv)) 2 (.lptr 0 5 0)) 6 (I i),upd m0 0 (some [I 4,I o,W n,.str s,.vec (ks.map Exp.v) .any]),1,[],h⟩) (fun i=>∀ x ∈ ks.take i,VE x (lv + 1)) (by simp -dsimp -implicitDefEqProofs only [↓STP,STQ,seval] <;> rfl) (by simp) (fun i hi hp=>?_) (fun hp=>?_) mono
   ·simp -dsimp -implicitDefEqProofs only [↓STP,STQ,seval,List.length_map,Int.ofNat_lt,hi,Za5 hi,Exp.v_clen,Exp.v_tk,Exp.v_ag,Exp.v_out,wl]
    refine ih _ (List.getElem_mem hi) (lv + 1) h _ (hks _ (List.getElem_mem hi)) (by omega) fun b hb=>?_
    cases b with
    | false =>
     simp -dsimp -implicitDefEqProofs only [↓STP,STQ,seval]
     exact no fun h=>by have:=hb.2 ((VE_mk.1 h).2.2.2.2.2.2.2.2 _ (List.getElem_mem hi)); cases this
    | true =>
     simp -dsimp -implicitDefEqProofs only [↓STP,STQ,seval,wiM (show i < 9223372036854775807 by have:=Za4; omega)]
     intro x hx
     rw [List.take_add_one,List.getElem?_eq_getElem hi] at hx
     rcases List.mem_append.1 hx with hx | hx
     ·exact hp x hx
     ·simp at hx; subst hx; exact hb.1 rfl
   ·simp -dsimp -implicitDefEqProofs only [↓STP,STQ,seval,List.length_map,Int.lt_irrefl]
    rw [List.take_length] at hp
    exact hK true (iff_of_true rfl (VE_mk.2 ⟨by omega,c,fun h=>by omega,fun _=>hnm,fun _=>⟨by omega,by omega⟩,fun h=>absurd rfl h,by omega,fun _=>by omega,hp⟩))
  ·by_cases hnm:s=Zgf
   rotate_left
   ·simp -dsimp -implicitDefEqProofs only [↓STP,STQ,seval,Exp.v_mk,Exp.kind,List.length_map,eq_true c,binS,bneS,eq_false (show ¬ s=⟨#[]⟩ from hnm)]
    exact no fun h=>hnm ((VE_mk.1 h).2.2.2.1 (by decide))
   by_cases ho0:o=0
   rotate_left
   ·simp -dsimp -implicitDefEqProofs only [↓STP,STQ,seval,Exp.v_mk,Exp.kind,List.length_map,eq_true c,binS,bneS,eq_true (show s=⟨#[]⟩ from hnm),eq_false ho0]
    exact no fun h=>ho0 ((VE_mk.1 h).2.2.2.2.2.1 (by decide))
   by_cases cn:(1152921504606846975:Int) < (n:Int)
   ·simp -dsimp -implicitDefEqProofs only [↓STP,STQ,seval,Exp.v_mk,Exp.kind,List.length_map,eq_true c,binS,bneS,eq_true (show s=⟨#[]⟩ from hnm),eq_true ho0,eq_true cn]
    exact no fun h=>by have:=(VE_mk.1 h).2.2.2.2.2.2.1; omega
   by_cases cz:(n:Int)=0
   rotate_left
   ·simp -dsimp -implicitDefEqProofs only [↓STP,STQ,seval,Exp.v_mk,Exp.kind,List.length_map,eq_true c,binS,bneS,eq_true (show s=⟨#[]⟩ from hnm),eq_true ho0,eq_false cn,eq_false cz]
    exact no fun h=>by have:=(VE_mk.1 h).2.2.2.2.2.2.2.1 (by decide); omega
   simp -dsimp -implicitDefEqProofs only [↓STP,STQ,seval,Exp.v_mk,Exp.kind,List.length_map,eq_true c,binS,bneS,eq_true (show s=⟨#[]⟩ from hnm),eq_true ho0,eq_false cn,eq_true cz]
   refine Zao (N:=ks.length) (fun i=>⟨upd (upd (upd ρ0 1 (I lv)) 2 (.lptr 0 5 0)) 6 (I i),upd m0 0 (some [I 5,I o,W n,.str s,.vec (ks.map Exp.v) .any]),1,[],h⟩) (fun i=>∀ x ∈ ks.take i,VE x (lv + 1)) (by simp -dsimp -implicitDefEqProofs only [↓STP,STQ,seval] <;> rfl) (by simp) (fun i hi hp=>?_) (fun hp=>?_) mono
   ·simp -dsimp -implicitDefEqProofs only [↓STP,STQ,seval,List.length_map,Int.ofNat_lt,hi,Za5 hi,Exp.v_clen,Exp.v_tk,Exp.v_ag,Exp.v_out,wl]
    refine ih _ (List.getElem_mem hi) (lv + 1) h _ (hks _ (List.getElem_mem hi)) (by omega) fun b hb=>?_
    cases b with
    | false =>
     simp -dsimp -implicitDefEqProofs only [↓STP,STQ,seval]
     exact no fun h=>by have:=hb.2 ((VE_mk.1 h).2.2.2.2.2.2.2.2 _ (List.getElem_mem hi)); cases this
    | true =>
     simp -dsimp -implicitDefEqProofs only [↓STP,STQ,seval,wiM (show i < 9223372036854775807 by have:=Za4; omega)]
     intro x hx
     rw [List.take_add_one,List.getElem?_eq_getElem hi] at hx
     rcases List.mem_append.1 hx with hx | hx
     ·exact hp x hx
     ·simp at hx; subst hx; exact hb.1 rfl
   ·simp -dsimp -implicitDefEqProofs only [↓STP,STQ,seval,List.length_map,Int.lt_irrefl]
    rw [List.take_length] at hp
    exact hK true (iff_of_true rfl (VE_mk.2 ⟨by omega,c,fun h=>by omega,fun _=>hnm,fun h=>by omega,fun _=>ho0,by omega,fun _=>by omega,hp⟩))
  ·by_cases hnm:s=Zgf
   rotate_left
   ·simp -dsimp -implicitDefEqProofs only [↓STP,STQ,seval,Exp.v_mk,Exp.kind,List.length_map,eq_true c,binS,bneS,eq_false (show ¬ s=⟨#[]⟩ from hnm)]
    exact no fun h=>hnm ((VE_mk.1 h).2.2.2.1 (by decide))
   by_cases ho0:o=0
   rotate_left
   ·simp -dsimp -implicitDefEqProofs only [↓STP,STQ,seval,Exp.v_mk,Exp.kind,List.length_map,eq_true c,binS,bneS,eq_true (show s=⟨#[]⟩ from hnm),eq_false ho0]
    exact no fun h=>ho0 ((VE_mk.1 h).2.2.2.2.2.1 (by decide))
   by_cases cn:(1152921504606846975:Int) < (n:Int)
   ·simp -dsimp -implicitDefEqProofs only [↓STP,STQ,seval,Exp.v_mk,Exp.kind,List.length_map,eq_true c,binS,bneS,eq_true (show s=⟨#[]⟩ from hnm),eq_true ho0,eq_true cn]
    exact no fun h=>by have:=(VE_mk.1 h).2.2.2.2.2.2.1; omega
   by_cases cz:(n:Int)=0
   rotate_left
   ·simp -dsimp -implicitDefEqProofs only [↓STP,STQ,seval,Exp.v_mk,Exp.kind,List.length_map,eq_true c,binS,bneS,eq_true (show s=⟨#[]⟩ from hnm),eq_true ho0,eq_false cn,eq_false cz]
    exact no fun h=>by have:=(VE_mk.1 h).2.2.2.2.2.2.2.1 (by decide); omega
   simp -dsimp -implicitDefEqProofs only [↓STP,STQ,seval,Exp.v_mk,Exp.kind,List.length_map,eq_true c,binS,bneS,eq_true (show s=⟨#[]⟩ from hnm),eq_true ho0,eq_false cn,eq_true cz]
   refine Zao (N:=ks.length) (fun i=>⟨upd (upd (upd ρ0 1 (I lv)) 2 (.lptr 0 5 0)) 6 (I i),upd m0 0 (some [I 6,I o,W n,.str s,.vec (ks.map Exp.v) .any]),1,[],h⟩) (fun i=>∀ x ∈ ks.take i,VE x (lv + 1)) (by simp -dsimp -implicitDefEqProofs only [↓STP,STQ,seval] <;> rfl) (by simp) (fun i hi hp=>?_) (fun hp=>?_) mono
   ·simp -dsimp -implicitDefEqProofs only [↓STP,STQ,seval,List.length_map,Int.ofNat_lt,hi,Za5 hi,Exp.v_clen,Exp.v_tk,Exp.v_ag,Exp.v_out,wl]
    refine ih _ (List.getElem_mem hi) (lv + 1) h _ (hks _ (List.getElem_mem hi)) (by omega) fun b hb=>?_
    cases b with
    | false =>
     simp -dsimp -implicitDefEqProofs only [↓STP,STQ,seval]
     exact no fun h=>by have:=hb.2 ((VE_mk.1 h).2.2.2.2.2.2.2.2 _ (List.getElem_mem hi)); cases this
    | true =>
     simp -dsimp -implicitDefEqProofs only [↓STP,STQ,seval,wiM (show i < 9223372036854775807 by have:=Za4; omega)]
     intro x hx
     rw [List.take_add_one,List.getElem?_eq_getElem hi] at hx
     rcases List.mem_append.1 hx with hx | hx
     ·exact hp x hx
     ·simp at hx; subst hx; exact hb.1 rfl
   ·simp -dsimp -implicitDefEqProofs only [↓STP,STQ,seval,List.length_map,Int.lt_irrefl]
    rw [List.take_length] at hp
    exact hK true (iff_of_true rfl (VE_mk.2 ⟨by omega,c,fun h=>by omega,fun _=>hnm,fun h=>by omega,fun _=>ho0,by omega,fun _=>by omega,hp⟩))
theorem Zbo (l:List Stm) (ih:∀ x ∈ l,∀ (lv:Nat) (h:H) (K:Out→H→Prop),SOk x→lv ≤ 100→(∀ b:Bool,(b=true ↔ VS x lv)→K (.ret (.bool b)) h)→R 81 [x.v,I lv] h K) (hl:l.length ≤ maxLen) (ok:∀ x ∈ l,SOk x) {lv:Nat} (hlv:lv ≤ 100)
  (hK:∀ b:Bool,(b=true ↔ VSs l lv)→K (.ret (.bool b)) h):R 46 [.vec (l.map Stm.v) .any,I lv] h K:=by
 have hm:=Za4
 refine run46 (Nat.le_of_ble_eq_true rfl) ?_
 simp -dsimp -implicitDefEqProofs only [↓STP,STQ,seval,ir46]
 refine Zao (N:=l.length) (fun i=>⟨upd (upd (upd ρ0 0 (.vec (l.map Stm.v) .any)) 1 (I lv)) 5 (I i),m0,0,[],h⟩) (fun i=>∀ x ∈ l.take i,VS x lv) (by simp -dsimp -implicitDefEqProofs only [↓STP,STQ,seval] <;> rfl) (by simp) (fun i hi hp=>?_) (fun hp=>?_) mono
 ·simp -dsimp -implicitDefEqProofs only [↓STP,STQ,seval,List.length_map,Int.ofNat_lt,hi,Za5 hi,Stm.v_clen,Stm.v_tk,Stm.v_ag,Stm.v_out]
  refine ih _ (List.getElem_mem hi) lv h _ (ok _ (List.getElem_mem hi)) hlv fun b hb=>?_
  cases b with
  | false =>
   simp -dsimp -implicitDefEqProofs only [↓STP,STQ,seval]
   exact hK false (iff_of_false (by simp) fun h=>by have:=hb.2 (VSs_all.1 h _ (List.getElem_mem hi)); cases this)
  | true =>
   simp -dsimp -implicitDefEqProofs only [↓STP,STQ,seval,wiM (show i < 9223372036854775807 by omega)]
   intro x hx
   rw [List.take_add_one,List.getElem?_eq_getElem hi] at hx
   rcases List.mem_append.1 hx with hx | hx
   ·exact hp x hx
   ·simp at hx; subst hx; exact hb.1 rfl
 ·simp -dsimp -implicitDefEqProofs only [↓STP,STQ,seval,List.length_map,Int.lt_irrefl]
  rw [List.take_length] at hp
  exact hK true (iff_of_true rfl (VSs_all.2 hp))
theorem stmt27 (e:Stm):∀ (lv:Nat) (h:H) (K:Out→H→Prop),SOk e→lv ≤ 100→(∀ b:Bool,(b=true ↔ VS e lv)→K (.ret (.bool b)) h)→R 81 [e.v,I lv] h K:=by
 induction e using Stm.ind with
 | h k s e a b iha ihb =>
  intro lv h K ok hlv hK
  obtain ⟨hk,hs,hle,hla,hlb,he,ha,hb⟩:=Ziq ok
  have hm:=Za4
  have no:¬ VS (.mk k s e a b) lv→K (.ret (.bool false)) h:=fun hn=>hK false (iff_of_false (by simp) hn)
  refine run81 (Nat.le_of_ble_eq_true rfl) ?_
  by_cases c0:(24:Int) < (lv:Int)
  ·simp -dsimp -implicitDefEqProofs only [↓STP,STQ,seval,Stm.v_mk,ir81,c0]
   exact no fun h=>by have:=(VS_mk.1 h).1; omega
  by_cases c1:k < 1
  ·simp -dsimp -implicitDefEqProofs only [↓STP,STQ,seval,Stm.v_mk,ir81,c0,c1]
   exact no fun h=>by have:=(VS_mk.1 h).2.1; omega
  by_cases c2:5 < k
  ·simp -dsimp -implicitDefEqProofs only [↓STP,STQ,seval,Stm.v_mk,ir81,c0,c1,c2]
   exact no fun h=>by have:=(VS_mk.1 h).2.2.1; omega
  have wl:IntKind.i64.wrap ((lv:Int) + 1)=((lv + 1:Nat):Int):=wi (by omega)
  have hlv':lv + 1 ≤ 100:=by omega
  have kk:k=1∨k=2∨k=3∨k=4∨k=5:=by omega
  rcases kk with rfl | rfl | rfl | rfl | rfl
  ·by_cases ce:(e.length:Int)=1
   rotate_left
   ·simp -dsimp -implicitDefEqProofs only [↓STP,STQ,seval,Stm.v_mk,ir81,c0,List.length_map,eq_false ce]
    exact no fun h=>ce (by have:=(VS_mk.1 h).2.2.2.1; simp at this; omega)
   have ce':e.length=1:=by omega
   simp -dsimp -implicitDefEqProofs only [↓STP,STQ,seval,Stm.v_mk,ir81,c0,List.length_map,ce']
   refine Zcf hs fun b' hb'=>?_
   cases b' with
   | false =>
    simp -dsimp -implicitDefEqProofs only [↓STP,STQ,seval]
    exact no fun h=>by have:=hb'.2 ((VS_mk.1 h).2.2.2.2.1 (by decide)); cases this
   | true =>
    have hnm:=hb'.1 rfl
    by_cases cb:(0:Int) < (b.length:Int)
    ·simp -dsimp -implicitDefEqProofs only [↓STP,STQ,seval,List.length_map,eq_true cb]
     exact no fun h=>by have:=(VS_mk.1 h).2.2.2.2.2.2.1 (by decide); subst this; simp at cb
    by_cases ca:(0:Int) < (a.length:Int)
    ·simp -dsimp -implicitDefEqProofs only [↓STP,STQ,seval,List.length_map,eq_false cb,eq_true ca]
     exact no fun h=>by have:=(VS_mk.1 h).2.2.2.2.2.2.2.1 (by decide) (by decide); subst this; simp at ca
    simp -dsimp -implicitDefEqProofs only [↓STP,STQ,seval,List.length_map,eq_false cb,eq_false ca]
    refine Zao (N:=1) (fun i=>⟨upd (upd (upd (upd ρ0 1 (I lv)) 2 (.lptr 0 5 0)) 5 (I 1)) 7 (I i),upd m0 0 (some [I 1,.str s,.vec (e.map Exp.v) .any,.vec (a.map Stm.v) .any,.vec (b.map Stm.v) .any]),1,[],h⟩) (fun i=>∀ x ∈ e.take i,VE x (lv + 1)) (by simp -dsimp -implicitDefEqProofs only [↓STP,STQ,seval] <;> rfl) (by simp) (fun i hi hp=>?_) (fun hp=>?_) mono
    ·have hi':i < e.length:=by omega
     simp -dsimp -implicitDefEqProofs only [↓STP,STQ,seval,eq_true (show (i:Int) < 1 by omega),Za5 hi',Exp.v_clen,Exp.v_tk,Exp.v_ag,Exp.v_out,wl]
     refine Znx _ (lv + 1) h _ (he _ (List.getElem_mem hi')) (by omega) fun b' hb'=>?_
     cases b' with
     | false =>
      simp -dsimp -implicitDefEqProofs only [↓STP,STQ,seval]
      exact no fun h=>by have:=hb'.2 ((VS_mk.1 h).2.2.2.2.2.2.2.2.1 _ (List.getElem_mem hi')); cases this
     | true =>
      simp -dsimp -implicitDefEqProofs only [↓STP,STQ,seval,wiM (show i < 9223372036854775807 by omega)]
      intro x hx
      rw [List.take_add_one,List.getElem?_eq_getElem hi'] at hx
      rcases List.mem_append.1 hx with hx | hx
      ·exact hp x hx
      ·simp at hx; subst hx; exact hb'.1 rfl
    ·rw [List.take_of_length_le (by omega)] at hp
     simp -dsimp -implicitDefEqProofs only [↓STP,STQ,seval,wl]
     refine Zbo a iha hla ha hlv' fun b1 hb1=>?_
     cases b1 with
     | false =>
      simp -dsimp -implicitDefEqProofs only [↓STP,STQ,seval]
      exact no fun h=>by have:=hb1.2 (VS_mk.1 h).2.2.2.2.2.2.2.2.2.1; cases this
     | true =>
      simp -dsimp -implicitDefEqProofs only [↓STP,STQ,seval,wl]
      refine Zbo b ihb hlb hb hlv' fun b2 hb2=>?_
      cases b2 with
      | false =>
       simp -dsimp -implicitDefEqProofs only [↓STP,STQ,seval]
       exact no fun h=>by have:=hb2.2 (VS_mk.1 h).2.2.2.2.2.2.2.2.2.2; cases this
      | true =>
       simp -dsimp -implicitDefEqProofs only [↓STP,STQ,seval]
       exact hK true (iff_of_true rfl (VS_mk.2 ⟨by omega,by omega,by omega,by simpa using ce',fun _=>hnm,fun h=>absurd h (by simp),fun _=>List.eq_nil_of_length_eq_zero (by omega),fun _ _=>List.eq_nil_of_length_eq_zero (by omega),hp,hb1.1 rfl,hb2.1 rfl⟩))
  ·by_cases ce:(e.length:Int)=2
   rotate_left
   ·simp -dsimp -implicitDefEqProofs only [↓STP,STQ,seval,Stm.v_mk,ir81,c0,List.length_map,eq_false ce]
    exact no fun h=>ce (by have:=(VS_mk.1 h).2.2.2.1; simp at this; omega)
   have ce':e.length=2:=by omega
   simp -dsimp -implicitDefEqProofs only [↓STP,STQ,seval,Stm.v_mk,ir81,c0,List.length_map,ce']
   refine Zcf hs fun b' hb'=>?_
   cases b' with
   | false =>
    simp -dsimp -implicitDefEqProofs only [↓STP,STQ,seval]
    exact no fun h=>by have:=hb'.2 ((VS_mk.1 h).2.2.2.2.1 (by decide)); cases this
   | true =>
    have hnm:=hb'.1 rfl
    by_cases cb:(0:Int) < (b.length:Int)
    ·simp -dsimp -implicitDefEqProofs only [↓STP,STQ,seval,List.length_map,eq_true cb]
     exact no fun h=>by have:=(VS_mk.1 h).2.2.2.2.2.2.1 (by decide); subst this; simp at cb
    by_cases ca:(0:Int) < (a.length:Int)
    ·simp -dsimp -implicitDefEqProofs only [↓STP,STQ,seval,List.length_map,eq_false cb,eq_true ca]
     exact no fun h=>by have:=(VS_mk.1 h).2.2.2.2.2.2.2.1 (by decide) (by decide); subst this; simp at ca
    simp -dsimp -implicitDefEqProofs only [↓STP,STQ,seval,List.length_map,eq_false cb,eq_false ca]
    refine Zao (N:=2) (fun i=>⟨upd (upd (upd (upd ρ0 1 (I lv)) 2 (.lptr 0 5 0)) 5 (I 2)) 7 (I i),upd m0 0 (some [I 2,.str s,.vec (e.map Exp.v) .any,.vec (a.map Stm.v) .any,.vec (b.map Stm.v) .any]),1,[],h⟩) (fun i=>∀ x ∈ e.take i,VE x (lv + 1)) (by simp -dsimp -implicitDefEqProofs only [↓STP,STQ,seval] <;> rfl) (by simp) (fun i hi hp=>?_) (fun hp=>?_) mono
    ·have hi':i < e.length:=by omega
     simp -dsimp -implicitDefEqProofs only [↓STP,STQ,seval,eq_true (show (i:Int) < 2 by omega),Za5 hi',Exp.v_clen,Exp.v_tk,Exp.v_ag,Exp.v_out,wl]
     refine Znx _ (lv + 1) h _ (he _ (List.getElem_mem hi')) (by omega) fun b' hb'=>?_
     cases b' with
     | false =>
      simp -dsimp -implicitDefEqProofs only [↓STP,STQ,seval]
      exact no fun h=>by have:=hb'.2 ((VS_mk.1 h).2.2.2.2.2.2.2.2.1 _ (List.getElem_mem hi')); cases this
     | true =>
      simp -dsimp -implicitDefEqProofs only [↓STP,STQ,seval,wiM (show i < 9223372036854775807 by omega)]
      intro x hx
      rw [List.take_add_one,List.getElem?_eq_getElem hi'] at hx
      rcases List.mem_append.1 hx with hx | hx
      ·exact hp x hx
      ·simp at hx; subst hx; exact hb'.1 rfl
    ·rw [List.take_of_length_le (by omega)] at hp
     simp -dsimp -implicitDefEqProofs only [↓STP,STQ,seval,wl]
     refine Zbo a iha hla ha hlv' fun b1 hb1=>?_
     cases b1 with
     | false =>
      simp -dsimp -implicitDefEqProofs only [↓STP,STQ,seval]
      exact no fun h=>by have:=hb1.2 (VS_mk.1 h).2.2.2.2.2.2.2.2.2.1; cases this
     | true =>
      simp -dsimp -implicitDefEqProofs only [↓STP,STQ,seval,wl]
      refine Zbo b ihb hlb hb hlv' fun b2 hb2=>?_
      cases b2 with
      | false =>
       simp -dsimp -implicitDefEqProofs only [↓STP,STQ,seval]
       exact no fun h=>by have:=hb2.2 (VS_mk.1 h).2.2.2.2.2.2.2.2.2.2; cases this
      | true =>
       simp -dsimp -implicitDefEqProofs only [↓STP,STQ,seval]
       exact hK true (iff_of_true rfl (VS_mk.2 ⟨by omega,by omega,by omega,by simpa using ce',fun _=>hnm,fun h=>absurd h (by simp),fun _=>List.eq_nil_of_length_eq_zero (by omega),fun _ _=>List.eq_nil_of_length_eq_zero (by omega),hp,hb1.1 rfl,hb2.1 rfl⟩))
  ·by_cases ce:(e.length:Int)=1
   rotate_left
   ·simp -dsimp -implicitDefEqProofs only [↓STP,STQ,seval,Stm.v_mk,ir81,c0,List.length_map,eq_false ce]
    exact no fun h=>ce (by have:=(VS_mk.1 h).2.2.2.1; simp at this; omega)
   have ce':e.length=1:=by omega
   by_cases hnm:s=Zgf
   rotate_left
   ·simp -dsimp -implicitDefEqProofs only [↓STP,STQ,seval,Stm.v_mk,ir81,c0,List.length_map,ce',binS,bneS,eq_false (show ¬ s=⟨#[]⟩ from hnm)]
    exact no fun h=>hnm ((VS_mk.1 h).2.2.2.2.2.1 (by decide))
   simp -dsimp -implicitDefEqProofs only [↓STP,STQ,seval,Stm.v_mk,ir81,c0,List.length_map,ce',binS,bneS,eq_true (show s=⟨#[]⟩ from hnm)]
   refine Zao (N:=1) (fun i=>⟨upd (upd (upd (upd ρ0 1 (I lv)) 2 (.lptr 0 5 0)) 5 (I 1)) 7 (I i),upd m0 0 (some [I 3,.str s,.vec (e.map Exp.v) .any,.vec (a.map Stm.v) .any,.vec (b.map Stm.v) .any]),1,[],h⟩) (fun i=>∀ x ∈ e.take i,VE x (lv + 1)) (by simp -dsimp -implicitDefEqProofs only [↓STP,STQ,seval] <;> rfl) (by simp) (fun i hi hp=>?_) (fun hp=>?_) mono
   ·have hi':i < e.length:=by omega
    simp -dsimp -implicitDefEqProofs only [↓STP,STQ,seval,eq_true (show (i:Int) < 1 by omega),Za5 hi',Exp.v_clen,Exp.v_tk,Exp.v_ag,Exp.v_out,wl]
    refine Znx _ (lv + 1) h _ (he _ (List.getElem_mem hi')) (by omega) fun b' hb'=>?_
    cases b' with
    | false =>
     simp -dsimp -implicitDefEqProofs only [↓STP,STQ,seval]
     exact no fun h=>by have:=hb'.2 ((VS_mk.1 h).2.2.2.2.2.2.2.2.1 _ (List.getElem_mem hi')); cases this
    | true =>
     simp -dsimp -implicitDefEqProofs only [↓STP,STQ,seval,wiM (show i < 9223372036854775807 by omega)]
     intro x hx
     rw [List.take_add_one,List.getElem?_eq_getElem hi'] at hx
     rcases List.mem_append.1 hx with hx | hx
     ·exact hp x hx
     ·simp at hx; subst hx; exact hb'.1 rfl
   ·rw [List.take_of_length_le (by omega)] at hp
    simp -dsimp -implicitDefEqProofs only [↓STP,STQ,seval,wl]
    refine Zbo a iha hla ha hlv' fun b1 hb1=>?_
    cases b1 with
    | false =>
     simp -dsimp -implicitDefEqProofs only [↓STP,STQ,seval]
     exact no fun h=>by have:=hb1.2 (VS_mk.1 h).2.2.2.2.2.2.2.2.2.1; cases this
    | true =>
     simp -dsimp -implicitDefEqProofs only [↓STP,STQ,seval,wl]
     refine Zbo b ihb hlb hb hlv' fun b2 hb2=>?_
     cases b2 with
     | false =>
      simp -dsimp -implicitDefEqProofs only [↓STP,STQ,seval]
      exact no fun h=>by have:=hb2.2 (VS_mk.1 h).2.2.2.2.2.2.2.2.2.2; cases this
     | true =>
      simp -dsimp -implicitDefEqProofs only [↓STP,STQ,seval]
      exact hK true (iff_of_true rfl (VS_mk.2 ⟨by omega,by omega,by omega,by simpa using ce',fun h=>absurd h (by simp),fun _=>hnm,fun h=>absurd rfl h,fun h=>absurd rfl h,hp,hb1.1 rfl,hb2.1 rfl⟩))
  ·by_cases ce:(e.length:Int)=2
   rotate_left
   ·simp -dsimp -implicitDefEqProofs only [↓STP,STQ,seval,Stm.v_mk,ir81,c0,List.length_map,eq_false ce]
    exact no fun h=>ce (by have:=(VS_mk.1 h).2.2.2.1; simp at this; omega)
   have ce':e.length=2:=by omega
   simp -dsimp -implicitDefEqProofs only [↓STP,STQ,seval,Stm.v_mk,ir81,c0,List.length_map,ce']
   refine Zcf hs fun b' hb'=>?_
   cases b' with
   | false =>
    simp -dsimp -implicitDefEqProofs only [↓STP,STQ,seval]
    exact no fun h=>by have:=hb'.2 ((VS_mk.1 h).2.2.2.2.1 (by decide)); cases this
   | true =>
    have hnm:=hb'.1 rfl
    by_cases cb:(0:Int) < (b.length:Int)
    ·simp -dsimp -implicitDefEqProofs only [↓STP,STQ,seval,List.length_map,eq_true cb]
     exact no fun h=>by have:=(VS_mk.1 h).2.2.2.2.2.2.1 (by decide); subst this; simp at cb
    simp -dsimp -implicitDefEqProofs only [↓STP,STQ,seval,List.length_map,eq_false cb]
    refine Zao (N:=2) (fun i=>⟨upd (upd (upd (upd ρ0 1 (I lv)) 2 (.lptr 0 5 0)) 5 (I 2)) 7 (I i),upd m0 0 (some [I 4,.str s,.vec (e.map Exp.v) .any,.vec (a.map Stm.v) .any,.vec (b.map Stm.v) .any]),1,[],h⟩) (fun i=>∀ x ∈ e.take i,VE x (lv + 1)) (by simp -dsimp -implicitDefEqProofs only [↓STP,STQ,seval] <;> rfl) (by simp) (fun i hi hp=>?_) (fun hp=>?_) mono
    ·have hi':i < e.length:=by omega
     simp -dsimp -implicitDefEqProofs only [↓STP,STQ,seval,eq_true (show (i:Int) < 2 by omega),Za5 hi',Exp.v_clen,Exp.v_tk,Exp.v_ag,Exp.v_out,wl]
     refine Znx _ (lv + 1) h _ (he _ (List.getElem_mem hi')) (by omega) fun b' hb'=>?_
     cases b' with
     | false =>
      simp -dsimp -implicitDefEqProofs only [↓STP,STQ,seval]
      exact no fun h=>by have:=hb'.2 ((VS_mk.1 h).2.2.2.2.2.2.2.2.1 _ (List.getElem_mem hi')); cases this
     | true =>
      simp -dsimp -implicitDefEqProofs only [↓STP,STQ,seval,wiM (show i < 9223372036854775807 by omega)]
      intro x hx
      rw [List.take_add_one,List.getElem?_eq_getElem hi'] at hx
      rcases List.mem_append.1 hx with hx | hx
      ·exact hp x hx
      ·simp at hx; subst hx; exact hb'.1 rfl
    ·rw [List.take_of_length_le (by omega)] at hp
     simp -dsimp -implicitDefEqProofs only [↓STP,STQ,seval,wl]
     refine Zbo a iha hla ha hlv' fun b1 hb1=>?_
     cases b1 with
     | false =>
      simp -dsimp -implicitDefEqProofs only [↓STP,STQ,seval]
      exact no fun h=>by have:=hb1.2 (VS_mk.1 h).2.2.2.2.2.2.2.2.2.1; cases this
     | true =>
      simp -dsimp -implicitDefEqProofs only [↓STP,STQ,seval,wl]
      refine Zbo b ihb hlb hb hlv' fun b2 hb2=>?_
      cases b2 with
      | false =>
       simp -dsimp -implicitDefEqProofs only [↓STP,STQ,seval]
       exact no fun h=>by have:=hb2.2 (VS_mk.1 h).2.2.2.2.2.2.2.2.2.2; cases this
      | true =>
       simp -dsimp -implicitDefEqProofs only [↓STP,STQ,seval]
       exact hK true (iff_of_true rfl (VS_mk.2 ⟨by omega,by omega,by omega,by simpa using ce',fun _=>hnm,fun h=>absurd h (by simp),fun _=>List.eq_nil_of_length_eq_zero (by omega),fun _ h=>absurd rfl h,hp,hb1.1 rfl,hb2.1 rfl⟩))
  ·by_cases ce:(e.length:Int)=1
   rotate_left
   ·simp -dsimp -implicitDefEqProofs only [↓STP,STQ,seval,Stm.v_mk,ir81,c0,List.length_map,eq_false ce]
    exact no fun h=>ce (by have:=(VS_mk.1 h).2.2.2.1; simp at this; omega)
   have ce':e.length=1:=by omega
   by_cases hnm:s=Zgf
   rotate_left
   ·simp -dsimp -implicitDefEqProofs only [↓STP,STQ,seval,Stm.v_mk,ir81,c0,List.length_map,ce',binS,bneS,eq_false (show ¬ s=⟨#[]⟩ from hnm)]
    exact no fun h=>hnm ((VS_mk.1 h).2.2.2.2.2.1 (by decide))
   by_cases cb:(0:Int) < (b.length:Int)
   ·simp -dsimp -implicitDefEqProofs only [↓STP,STQ,seval,Stm.v_mk,ir81,c0,List.length_map,ce',binS,bneS,eq_true (show s=⟨#[]⟩ from hnm),eq_true cb]
    exact no fun h=>by have:=(VS_mk.1 h).2.2.2.2.2.2.1 (by decide); subst this; simp at cb
   by_cases ca:(0:Int) < (a.length:Int)
   ·simp -dsimp -implicitDefEqProofs only [↓STP,STQ,seval,Stm.v_mk,ir81,c0,List.length_map,ce',binS,bneS,eq_true (show s=⟨#[]⟩ from hnm),eq_false cb,eq_true ca]
    exact no fun h=>by have:=(VS_mk.1 h).2.2.2.2.2.2.2.1 (by decide) (by decide); subst this; simp at ca
   simp -dsimp -implicitDefEqProofs only [↓STP,STQ,seval,Stm.v_mk,ir81,c0,List.length_map,ce',binS,bneS,eq_true (show s=⟨#[]⟩ from hnm),eq_false cb,eq_false ca]
   refine Zao (N:=1) (fun i=>⟨upd (upd (upd (upd ρ0 1 (I lv)) 2 (.lptr 0 5 0)) 5 (I 1)) 7 (I i),upd m0 0 (some [I 5,.str s,.vec (e.map Exp.v) .any,.vec (a.map Stm.v) .any,.vec (b.map Stm.v) .any]),1,[],h⟩) (fun i=>∀ x ∈ e.take i,VE x (lv + 1)) (by simp -dsimp -implicitDefEqProofs only [↓STP,STQ,seval] <;> rfl) (by simp) (fun i hi hp=>?_) (fun hp=>?_) mono
   ·have hi':i < e.length:=by omega
    simp -dsimp -implicitDefEqProofs only [↓STP,STQ,seval,eq_true (show (i:Int) < 1 by omega),Za5 hi',Exp.v_clen,Exp.v_tk,Exp.v_ag,Exp.v_out,wl]
    refine Znx _ (lv + 1) h _ (he _ (List.getElem_mem hi')) (by omega) fun b' hb'=>?_
    cases b' with
    | false =>
     simp -dsimp -implicitDefEqProofs only [↓STP,STQ,seval]
     exact no fun h=>by have:=hb'.2 ((VS_mk.1 h).2.2.2.2.2.2.2.2.1 _ (List.getElem_mem hi')); cases this
    | true =>
     simp -dsimp -implicitDefEqProofs only [↓STP,STQ,seval,wiM (show i < 9223372036854775807 by omega)]
     intro x hx
     rw [List.take_add_one,List.getElem?_eq_getElem hi'] at hx
     rcases List.mem_append.1 hx with hx | hx
     ·exact hp x hx
     ·simp at hx; subst hx; exact hb'.1 rfl
   ·rw [List.take_of_length_le (by omega)] at hp
    simp -dsimp -implicitDefEqProofs only [↓STP,STQ,seval,wl]
    refine Zbo a iha hla ha hlv' fun b1 hb1=>?_
    cases b1 with
    | false =>
     simp -dsimp -implicitDefEqProofs only [↓STP,STQ,seval]
     exact no fun h=>by have:=hb1.2 (VS_mk.1 h).2.2.2.2.2.2.2.2.2.1; cases this
    | true =>
     simp -dsimp -implicitDefEqProofs only [↓STP,STQ,seval,wl]
     refine Zbo b ihb hlb hb hlv' fun b2 hb2=>?_
     cases b2 with
     | false =>
      simp -dsimp -implicitDefEqProofs only [↓STP,STQ,seval]
      exact no fun h=>by have:=hb2.2 (VS_mk.1 h).2.2.2.2.2.2.2.2.2.2; cases this
     | true =>
      simp -dsimp -implicitDefEqProofs only [↓STP,STQ,seval]
      exact hK true (iff_of_true rfl (VS_mk.2 ⟨by omega,by omega,by omega,by simpa using ce',fun h=>absurd h (by simp),fun _=>hnm,fun _=>List.eq_nil_of_length_eq_zero (by omega),fun _ _=>List.eq_nil_of_length_eq_zero (by omega),hp,hb1.1 rfl,hb2.1 rfl⟩))
theorem stmts27 {l:List Stm} (hl:l.length ≤ maxLen) (ok:∀ x ∈ l,SOk x) {lv:Nat} (hlv:lv ≤ 100)
  (hK:∀ b:Bool,(b=true ↔ VSs l lv)→K (.ret (.bool b)) h):R 46 [.vec (l.map Stm.v) .any,I lv] h K:=
 Zbo l (fun x _=>stmt27 x) hl ok hlv hK
end
end YtihjhelbdbeokaaGreatDoor
end Go.Ab
namespace Go.Ab
def blen (n:Nat):Nat:=if n=0 then 0 else 1 + blen (n / 2)
decreasing_by omega
theorem Zfl:blen 0=0:=by rw [blen,if_pos rfl]
theorem Zds {n:Nat} (h:n ≠ 0):blen n=1 + blen (n / 2):=by rw [blen,if_neg h]
theorem blen_le:∀ {k n:Nat},blen n ≤ k ↔ n < 2 ^ k
 | k,n=>by
  induction k generalizing n with
  | zero =>
   by_cases h:n=0
   ·subst h; simp [Zfl]
   ·rw [Zds h]; simp; omega
  | succ k ih =>
   by_cases h:n=0
   ·subst h; rw [Zfl]; exact ⟨fun _=>Nat.two_pow_pos _,fun _=>by omega⟩
   ·rw [Zds h]
    have:=ih (n:=n / 2)
    rw [Nat.pow_succ]
    constructor
    ·intro h1; have:=this.1 (by omega); omega
    ·intro h1; have:=this.2 (by omega); omega
theorem Zbj {n:Nat}:∀ k,2 ^ k ≤ n→blen n=k + blen (n / 2 ^ k)
 | 0,_=>by simp
 | k + 1,h=>by
  rw [Nat.pow_succ] at h
  have hp:=Nat.two_pow_pos k
  rw [Zbj k (by omega),Nat.pow_succ,← Nat.div_div_eq_div_mul,Zds (n:=n / 2 ^ k)]
  ·omega
  ·have:1 ≤ n / 2 ^ k:=(Nat.le_div_iff_mul_le hp).2 (by omega)
   omega
theorem Za1 {k k':IntKind} {x y:Int}:maxV (.int k x) [.int k' y]=some (.int k (if y > x then y else x)):=rfl
namespace YtihjhelbdbeokaaGreatDoor
theorem blen_tab:∀ n:Fin 256,bytes0.data.toList[n.1]?=some (UInt8.ofNat (blen n.1)):=by decide +kernel
section
variable {h:H} {K:Out→H→Prop} {n:Nat}
theorem fdivN {a b:Nat}:Int.fdiv (a:Int) (b:Int)=((a / b:Nat):Int):=by
 rw [Int.fdiv_eq_ediv_of_nonneg _ (by omega)]; rfl
theorem tab {n:Nat} (h:n < 256):bytes0.data.toList[n]?=some (UInt8.ofNat (blen n)):=blen_tab ⟨n,h⟩
theorem u8b {n:Nat} (h:n < 256):(UInt8.ofNat (blen n)).toNat=blen n:=by
 have:blen n ≤ 8:=blen_le.2 (by omega)
 rw [UInt8.toNat_ofNat']; omega
theorem Zs7 (hn:n < 18446744073709551616) (hK:K (.ret (I (blen n))) h):R 104 [W n] h K:=by
 refine run104 (Nat.le_of_ble_eq_true rfl) ?_
 have f1:∀ a:Nat,Int.fdiv (a:Int) (2 ^ (min 32 IntKind.u64.bits))=((a / 4294967296:Nat):Int):=fun a=>fdivN
 have f2:∀ a:Nat,Int.fdiv (a:Int) (2 ^ (min 16 IntKind.u64.bits))=((a / 65536:Nat):Int):=fun a=>fdivN
 have f3:∀ a:Nat,Int.fdiv (a:Int) (2 ^ (min 8 IntKind.u64.bits))=((a / 256:Nat):Int):=fun a=>fdivN
 have wi:∀ n:Int,0 ≤ n→n ≤ 100→IntKind.i64.wrap n=n:=fun n h0 h1=>wrap_i64 (by omega) (by omega)
 have go:∀ {a c:Nat},a < 256→blen n=c + blen a→c ≤ 56→K (.ret (I (IntKind.i64.wrap ((c:Int) + IntKind.i64.wrap ((UInt8.ofNat (blen a)).toNat:Nat))))) h:=fun {a c} h1 h2 h3=>by
  have:blen a ≤ 8:=blen_le.2 (by omega)
  rw [u8b h1,wi (blen a:Nat) (by omega) (by omega),wi _ (by omega) (by omega)]
  rw [h2] at hK
  exact hK
 have u8:∀ {a:Nat},a < 256→IntKind.u8.wrap (a:Int)=(a:Int):=fun {a} h=>by rw [wrap_u8]; omega
 by_cases a:(4294967296:Int) ≤ (n:Int)
 ·by_cases b:(65536:Int) ≤ ((n / 4294967296):Nat)
  ·by_cases c:(256:Int) ≤ (((n / 4294967296) / 65536):Nat)
   ·have hl:(((n / 4294967296) / 65536) / 256) < 256:=by omega
    have hb:blen n=56 + blen (((n / 4294967296) / 65536) / 256):=by
     have:=Zbj (n:=n) 32 (by omega)
     have:=Zbj (n:=(n / 4294967296)) 16 (by omega)
     have:=Zbj (n:=((n / 4294967296) / 65536)) 8 (by omega)
     try simp only [Nat.reducePow] at *
     omega
    simp -dsimp -implicitDefEqProofs only [↓STP,STQ,seval,ir104,eq_true a,eq_true b,eq_true c,f1,f2,f3,u8 hl,tab hl,wi 8 (by omega) (by omega),wi 16 (by omega) (by omega),wi 24 (by omega) (by omega),wi 40 (by omega) (by omega),wi 48 (by omega) (by omega),wi 56 (by omega) (by omega)]
    exact go (c:=56) hl hb (by decide)
   ·have hl:((n / 4294967296) / 65536) < 256:=by omega
    have hb:blen n=48 + blen ((n / 4294967296) / 65536):=by
     have:=Zbj (n:=n) 32 (by omega)
     have:=Zbj (n:=(n / 4294967296)) 16 (by omega)
     try simp only [Nat.reducePow] at *
     omega
    simp -dsimp -implicitDefEqProofs only [↓STP,STQ,seval,ir104,eq_true a,eq_true b,eq_false c,f1,f2,f3,u8 hl,tab hl,wi 8 (by omega) (by omega),wi 16 (by omega) (by omega),wi 24 (by omega) (by omega),wi 40 (by omega) (by omega),wi 48 (by omega) (by omega),wi 56 (by omega) (by omega)]
    exact go (c:=48) hl hb (by decide)
  ·by_cases c:(256:Int) ≤ ((n / 4294967296):Nat)
   ·have hl:((n / 4294967296) / 256) < 256:=by omega
    have hb:blen n=40 + blen ((n / 4294967296) / 256):=by
     have:=Zbj (n:=n) 32 (by omega)
     have:=Zbj (n:=(n / 4294967296)) 8 (by omega)
     try simp only [Nat.reducePow] at *
     omega
    simp -dsimp -implicitDefEqProofs only [↓STP,STQ,seval,ir104,eq_true a,eq_false b,eq_true c,f1,f2,f3,u8 hl,tab hl,wi 8 (by omega) (by omega),wi 16 (by omega) (by omega),wi 24 (by omega) (by omega),wi 40 (by omega) (by omega),wi 48 (by omega) (by omega),wi 56 (by omega) (by omega)]
    exact go (c:=40) hl hb (by decide)
   ·have hl:(n / 4294967296) < 256:=by omega
    have hb:blen n=32 + blen (n / 4294967296):=by
     have:=Zbj (n:=n) 32 (by omega)
     try simp only [Nat.reducePow] at *
     omega
    simp -dsimp -implicitDefEqProofs only [↓STP,STQ,seval,ir104,eq_true a,eq_false b,eq_false c,f1,f2,f3,u8 hl,tab hl,wi 8 (by omega) (by omega),wi 16 (by omega) (by omega),wi 24 (by omega) (by omega),wi 40 (by omega) (by omega),wi 48 (by omega) (by omega),wi 56 (by omega) (by omega)]
    exact go (c:=32) hl hb (by decide)
 ·by_cases b:(65536:Int) ≤ (n:Nat)
  ·by_cases c:(256:Int) ≤ ((n / 65536):Nat)
   ·have hl:((n / 65536) / 256) < 256:=by omega
    have hb:blen n=24 + blen ((n / 65536) / 256):=by
     have:=Zbj (n:=n) 16 (by omega)
     have:=Zbj (n:=(n / 65536)) 8 (by omega)
     try simp only [Nat.reducePow] at *
     omega
    simp -dsimp -implicitDefEqProofs only [↓STP,STQ,seval,ir104,eq_false a,eq_true b,eq_true c,f1,f2,f3,u8 hl,tab hl,wi 8 (by omega) (by omega),wi 16 (by omega) (by omega),wi 24 (by omega) (by omega),wi 40 (by omega) (by omega),wi 48 (by omega) (by omega),wi 56 (by omega) (by omega)]
    exact go (c:=24) hl hb (by decide)
   ·have hl:(n / 65536) < 256:=by omega
    have hb:blen n=16 + blen (n / 65536):=by
     have:=Zbj (n:=n) 16 (by omega)
     try simp only [Nat.reducePow] at *
     omega
    simp -dsimp -implicitDefEqProofs only [↓STP,STQ,seval,ir104,eq_false a,eq_true b,eq_false c,f1,f2,f3,u8 hl,tab hl,wi 8 (by omega) (by omega),wi 16 (by omega) (by omega),wi 24 (by omega) (by omega),wi 40 (by omega) (by omega),wi 48 (by omega) (by omega),wi 56 (by omega) (by omega)]
    exact go (c:=16) hl hb (by decide)
  ·by_cases c:(256:Int) ≤ (n:Nat)
   ·have hl:(n / 256) < 256:=by omega
    have hb:blen n=8 + blen (n / 256):=by
     have:=Zbj (n:=n) 8 (by omega)
     try simp only [Nat.reducePow] at *
     omega
    simp -dsimp -implicitDefEqProofs only [↓STP,STQ,seval,ir104,eq_false a,eq_false b,eq_true c,f1,f2,f3,u8 hl,tab hl,wi 8 (by omega) (by omega),wi 16 (by omega) (by omega),wi 24 (by omega) (by omega),wi 40 (by omega) (by omega),wi 48 (by omega) (by omega),wi 56 (by omega) (by omega)]
    exact go (c:=8) hl hb (by decide)
   ·have hl:n < 256:=by omega
    have hb:blen n=0 + blen n:=by
     try simp only [Nat.reducePow] at *
     omega
    simp -dsimp -implicitDefEqProofs only [↓STP,STQ,seval,ir104,eq_false a,eq_false b,eq_false c,f1,f2,f3,u8 hl,tab hl,wi 8 (by omega) (by omega),wi 16 (by omega) (by omega),wi 24 (by omega) (by omega),wi 40 (by omega) (by omega),wi 48 (by omega) (by omega),wi 56 (by omega) (by omega)]
    exact go (c:=0) hl hb (by decide)
theorem Zhs (hn:n < 18446744073709551616) (hK:K (.ret (I (max (blen n) 1:Nat))) h):R 71 [W n] h K:=by
 refine run71 (Nat.le_of_ble_eq_true rfl) ?_
 simp -dsimp -implicitDefEqProofs only [↓STP,STQ,seval,ir71]
 refine Zs7 hn ?_
 simp -dsimp -implicitDefEqProofs only [↓STP,STQ,seval,Za1]
 rw [show (if (1:Int) > (blen n:Nat) then (1:Int) else (blen n:Nat))=((max (blen n) 1:Nat):Int) by split <;> omega]
 exact hK
end
end YtihjhelbdbeokaaGreatDoor
end Go.Ab
namespace Go.Ab
structure Kn where
 kind:Int
 w:Nat
 is:Bool
 val:Nat
def Kn.cells (k:Kn):List V:=[I k.kind,I k.w,.bool k.is,W k.val]
def Kn.v (k:Kn):V:=.agg k.cells
def knum (w:Nat):Kn:=⟨1,w,false,0⟩
def wid (n:Nat):Nat:=max (blen n) 1
def kcon (n:Nat):Kn:=⟨1,wid n,true,n⟩
def kboo:Kn:=⟨2,0,false,0⟩
structure KOk (k:Kn):Prop where
 kind:k.kind=1∨k.kind=2
 w:k.w ≤ 60
 val:k.val < 2 ^ k.w
 boo:k.kind=2→k.w=0∧k.is=false
 un:k.is=false→k.val=0
abbrev TR (α:Type):=Except Int α
def Ans {α:Type} (r:TR α) (K:α→Prop) (F:Int→Prop):Prop:=match r with
 | .ok a=>K a
 | .error e=>F e
@[simp] theorem Zc1 {α:Type} {a:α} {K:α→Prop} {F:Int→Prop}:Ans (.ok a) K F=K a:=rfl
@[simp] theorem Zbk {α:Type} {e:Int} {K:α→Prop} {F:Int→Prop}:Ans (.error e:TR α) K F=F e:=rfl
def andT {α β:Type} (r:TR α) (f:α→TR β):TR β:=match r with
 | .ok a=>f a
 | .error e=>.error e
@[simp] theorem Zau {α β:Type} {a:α} {f:α→TR β}:andT (.ok a) f=f a:=rfl
@[simp] theorem Zf4 {α β:Type} {e:Int} {f:α→TR β}:andT (.error e) f=.error e:=rfl
structure TE where
 vars:ByteArray→Option (Int × Nat)
 loops:List (ByteArray × Nat)
 words:List (List Nat)
structure TS where
 env:TE
 steps:Nat
 most:Nat
 ifs:Nat
def Zaj {α:Type} (s:ByteArray):List (ByteArray × α)→Option α
 | []=>none
 | (a,v) :: es=>if a=s then some v else Zaj s es
def inOf (p:Prg) (s:ByteArray):Option InD:=p.ins.find? (fun d=>decide (d.name=s))
def arOf (p:Prg) (s:ByteArray):Option Nat:=p.arrays.findIdx? (fun d=>decide (d.name=s))
def Zjo (p:Prg) (σ:TE) (s:ByteArray):TR Kn:=
 match Zaj s σ.loops with
 | some n=>.ok (kcon n)
 | none=>match σ.vars s with
  | some (k,w)=>.ok ⟨k,w,false,0⟩
  | none=>match inOf p s with
   | some d=>if d.size=0 then .ok (knum d.width.toNat) else .error 4
   | none=>.error 4
def Zb0 (k:Kn) (size:Int):TR Nat:=
 if k.kind ≠ 1∨k.is=false then .error 1 else if size ≤ k.val then .error 13 else .ok k.val
def Ze9 (p:Prg) (σ:TE) (s:ByteArray) (k:Kn):TR Kn:=
 match arOf p s with
 | some i=>andT (Zb0 k (p.arrays.getD i ⟨s,0⟩).size) fun n=>.ok (knum ((σ.words.getD i []).getD n 0))
 | none=>match inOf p s with
  | some d=>if d.size=0 then .error 4 else andT (Zb0 k d.size) fun _=>.ok (knum d.width.toNat)
  | none=>.error 4
def Zc2 (o:Int):Int:=if o=6∨o=7 then 2 else 1
def opK (o:Int) (a b:Kn):TR Kn:=
 if a.kind ≠ Zc2 o∨b.kind ≠ Zc2 o then .error 5
 else if o=1 then .ok ⟨1,max a.w b.w + 1,a.is && b.is,if a.is && b.is then a.val + b.val else 0⟩
 else if o=2 then .ok ⟨1,a.w,a.is && b.is,if a.is && b.is then a.val - b.val else 0⟩
 else if o=3 then .ok ⟨1,a.w + b.w,a.is && b.is,if a.is && b.is then a.val * b.val else 0⟩
 else .ok kboo
def nthK (l:List Kn) (i:Nat):Kn:=l.getD i kboo
def Zjq (p:Prg) (σ:TE) (k o:Int) (n:Nat) (s:ByteArray) (l:List Kn):TR Kn:=
 if k=1 then .ok (kcon n)
 else if k=2 then Zjo p σ s
 else if k=3 then Ze9 p σ s (nthK l 0)
 else if k=4 then opK o (nthK l 0) (nthK l 1)
 else if k=5 then (if (nthK l 0).kind ≠ 2 then .error 5 else .ok kboo)
 else if (nthK l 0).kind ≠ 2∨(nthK l 2).kind ≠ (nthK l 1).kind then .error 5
 else .ok ⟨(nthK l 1).kind,max (nthK l 1).w (nthK l 2).w,false,0⟩
def Zf8 (m:Nat) (k:Kn):TR (Kn × Nat):=
 if k.kind=1 then (if 60 < k.w then .error 11 else .ok (k,max m k.w)) else .ok (k,m)
mutual
def Zdy (p:Prg) (σ:TE):Exp→TR (Kn × Nat)
 | .mk k o n s ks=>andT (Za9 p σ ks) fun (l,m)=>andT (Zjq p σ k o n s l) fun r=>Zf8 m r
def Za9 (p:Prg) (σ:TE):List Exp→TR (List Kn × Nat)
 | []=>.ok ([],0)
 | e :: es=>andT (Zdy p σ e) fun (a,m)=>andT (Za9 p σ es) fun (l,m')=>.ok (a :: l,max m m')
end
def Zhu (σ:TS):TR TS:=if 10000 ≤ σ.steps then .error 2 else .ok { σ with steps:=σ.steps + 1 }
def Zdl (p:Prg) (σ:TE) (s:ByteArray):Bool:=(inOf p s).isSome || (arOf p s).isSome || (Zaj s σ.loops).isSome
def setV (f:ByteArray→Option (Int × Nat)) (s:ByteArray) (v:Option (Int × Nat)):ByteArray→Option (Int × Nat):=fun t=>if t=s then v else f t
def Zm2 (a b:Option (Int × Nat)):Option (Int × Nat):=match a,b with
 | some (k,w),some (k',w')=>if k=k' then some (k,max w w') else none
 | _,_=>none
def Zex (ahead a b:ByteArray→Option (Int × Nat)):ByteArray→Option (Int × Nat):=fun s=>match ahead s with
 | some _=>Zm2 (a s) (b s)
 | none=>none
def maxW (a b:List (List Nat)):List (List Nat):=List.zipWith (List.zipWith max) a b
def setW (l:List (List Nat)) (i n w:Nat):List (List Nat):=l.set i ((l.getD i []).set n w)
def Zgu (f:Nat→TS→TR TS):Nat→Nat→TS→TR TS
 | 0,_,σ=>.ok σ
 | c + 1,n,σ=>andT (f n σ) fun σ'=>Zgu f c (n + 1) σ'
def Zoy (s:ByteArray) (fa:TS→TR TS) (n:Nat) (τ:TS):TR TS:=
 andT (Zhu τ) fun τ=>andT (fa { τ with env:={ τ.env with loops:=τ.env.loops ++ [(s,n)] } }) fun τ'=>.ok { τ' with env:={ τ'.env with loops:=τ.env.loops } }
def setT (p:Prg) (s:ByteArray) (l:List Kn) (σ:TS):TR TS:=
 if Zdl p σ.env s then .error 4 else .ok { σ with env:={ σ.env with vars:=setV σ.env.vars s (some ((nthK l 0).kind,(nthK l 0).w)) } }
def Zkt (p:Prg) (s:ByteArray) (l:List Kn) (σ:TS):TR TS:=match arOf p s with
 | none=>.error 4
 | some i=>andT (Zb0 (nthK l 0) (p.arrays.getD i ⟨s,0⟩).size) fun n =>
  if (nthK l 1).kind ≠ 1 then .error 5 else .ok { σ with env:={ σ.env with words:=setW σ.env.words i n (nthK l 1).w } }
def ifT (l:List Kn) (fa fb:TS→TR TS) (σ:TS):TR TS:=
 if (nthK l 0).kind ≠ 2 then .error 5 else
 andT (fa { σ with ifs:=σ.ifs + 1 }) fun σ1=>andT (fb { σ1 with env:=σ.env }) fun σ2 =>
 .ok { σ2 with ifs:=σ.ifs,env:={ σ.env with vars:=Zex σ.env.vars σ1.env.vars σ2.env.vars,words:=maxW σ2.env.words σ1.env.words } }
def forT (p:Prg) (s:ByteArray) (l:List Kn) (fa:TS→TR TS) (σ:TS):TR TS:=
 if (nthK l 0).kind ≠ 1∨(nthK l 1).kind ≠ 1∨(nthK l 0).is=false∨(nthK l 1).is=false then .error 1
 else if Zdl p σ.env s then .error 4 else
 Zgu (Zoy s fa) ((nthK l 1).val + 1 - (nthK l 0).val) (nthK l 0).val { σ with env:={ σ.env with vars:=setV σ.env.vars s none } }
def Zg4 (p:Prg) (k:Int) (s:ByteArray) (l:List Kn) (fa fb:TS→TR TS) (σ:TS):TR TS:=
 if k=1 then setT p s l σ else if k=2 then Zkt p s l σ else if k=3 then ifT l fa fb σ else if k=4 then forT p s l fa σ
 else if 0 < σ.ifs then .error 1 else .ok σ
mutual
def Zg3 (p:Prg):Stm→TS→TR TS
 | .mk k s e a b,σ=>andT (Zhu σ) fun σ=>andT (Za9 p σ.env e) fun r=>Zg4 p k s r.1 (Zal p a) (Zal p b) { σ with most:=max σ.most r.2 }
def Zal (p:Prg):List Stm→TS→TR TS
 | [],σ=>.ok σ
 | x :: xs,σ=>andT (Zg3 p x σ) fun σ'=>Zal p xs σ'
end
def Zgl (p:Prg):Bool:=decide ((p.ins.map InD.name ++ p.arrays.map ArD.name).Nodup)
def maxI:List InD→Nat
 | []=>0
 | d :: ds=>max d.width.toNat (maxI ds)
def Zh3 (p:Prg):TS:=⟨⟨fun _=>none,[],p.arrays.map fun d=>List.replicate d.size.toNat 1⟩,0,maxI p.ins,0⟩
def Zbl (p:Prg):TR TS:=if Zgl p then Zal p p.body (Zh3 p) else .error 4
structure EOkT (p:Prg) (σ:TE):Prop where
 vars:∀ s k w,σ.vars s=some (k,w)→(k=1∨k=2)∧w ≤ 60∧(k=2→w=0)
 loops:∀ s n,(s,n) ∈ σ.loops→n < 1152921504606846976
 wlen:σ.words.length=p.arrays.length
 words:∀ (i:Nat) (l:List Nat) (d:ArD),σ.words[i]?=some l→p.arrays[i]?=some d→(l.length:Int)=d.size∧∀ w ∈ l,w ≤ 60
structure TOk (p:Prg) (σ:TS):Prop where
 env:EOkT p σ.env
 steps:σ.steps ≤ 10000
 most:σ.most ≤ 60
end Go.Ab
namespace Go.Ab
def Grow (h:H) (sz:Nat) (css:List (List V)) (j:Nat) (v:V):Prop:=
 (∀ c ∈ css,c.length=sz)∧((css=[]∧v=.vec [] .full)∨(css ≠ []∧v=.ref j 0 css.length sz∧h.get j=some css.flatten))
theorem Grow.frame {h h':H} {sz j:Nat} {css:List (List V)} {v:V} (g:Grow h sz css j v) (e:css ≠ []→h'.objs j=h.objs j):Grow h' sz css j v:=by
 refine ⟨g.1,?_⟩
 rcases g.2 with h1 | ⟨h1,h2,h3⟩
 ·exact .inl h1
 ·exact .inr ⟨h1,h2,by unfold H.get at h3 ⊢; rw [e h1]; exact h3⟩
def V.outv:V→V
 | .vec xs _=>.vec xs .any
 | v=>v
theorem Grow.out {h:H} {sz j:Nat} {css:List (List V)} {v:V} (g:Grow h sz css j v):v.out=some v.outv∧v.outS=some v∧v.cells=[v]:=by
 rcases g.2 with ⟨_,rfl⟩ | ⟨_,rfl,_⟩ <;> exact ⟨rfl,rfl,rfl⟩
theorem Zjv {sz:Nat}:∀ {css:List (List V)},(∀ c ∈ css,c.length=sz)→css.flatten.length=css.length * sz
 | [],_=>by simp
 | c :: css,h=>by
  rw [List.flatten_cons,List.length_append,Zjv (fun c hc=>h c (by simp [hc])),h c (by simp),List.length_cons,Nat.succ_mul]
  omega
def Src (v:V):Prop:=(∃ xs,v=.vec xs .any)∨∃ a b c d,v=.ref a b c d
theorem Grow.src {h:H} {sz j:Nat} {css:List (List V)} {v:V} (g:Grow h sz css j v):flat h v.outv=some css.flatten∧lenV v.outv=some css.length∧Src v.outv:=by
 rcases g.2 with ⟨rfl,rfl⟩ | ⟨h1,rfl,h3⟩
 ·exact ⟨rfl,rfl,.inl ⟨_,rfl⟩⟩
 ·refine ⟨?_,rfl,.inr ⟨_,_,_,_,rfl⟩⟩
  simp only [V.outv,flat,h3,List.drop_zero]
  rw [List.take_of_length_le (Nat.le_of_eq (Zjv g.1))]
def Evo (h:H) (F:Nat→Prop) (h':H) (F2:Nat→Prop):Prop:=h.next ≤ h'.next∧∀ j,j < h.next→¬ F j→h'.objs j=h.objs j∧¬ F2 j
theorem Evo.refl (h:H) (F:Nat→Prop):Evo h F h F:=⟨Nat.le_refl _,fun j _ hF=>⟨rfl,hF⟩⟩
theorem Evo.trans {h h' h'':H} {F F2 F3:Nat→Prop} (a:Evo h F h' F2) (b:Evo h' F2 h'' F3):Evo h F h'' F3:=
 ⟨Nat.le_trans a.1 b.1,fun j hj hF=>by
  obtain ⟨h1,h2⟩:=a.2 j hj hF
  obtain ⟨h3,h4⟩:=b.2 j (Nat.lt_of_lt_of_le hj a.1) h2
  exact ⟨h3.trans h1,h4⟩⟩
end Go.Ab
namespace Go.Ab
def mapO {α:Type} (f:α→V) (l:List (ByteArray × α)):List (V × V):=l.map fun p=>(.str p.1,f p.2)
def Zck {α:Type} (s:ByteArray):List (ByteArray × α)→Nat→Option (Nat × α)
 | [],_=>none
 | (a,v) :: es,i=>if a=s then some (i,v) else Zck s es (i + 1)
theorem beqBA {a b:ByteArray}:(a == b)=decide (a=b):=by
 by_cases h:a=b
 ·subst h; rw [decide_eq_true rfl]; exact (MapKept.bytes_beq a a).2 rfl
 ·rw [decide_eq_false h]
  cases hb:(a == b) with
  | false=>rfl
  | true=>exact absurd ((MapKept.bytes_beq a b).1 hb) h
theorem Zd8 {α:Type} {f:α→V} {s:ByteArray}:∀ {l:List (ByteArray × α)} {i:Nat},Zc5 .s (.str s) (mapO f l) i=some ((Zck s l i).map fun q=>(q.1,f q.2))
 | [],i=>rfl
 | (a,v) :: es,i=>by
  show (match eqC .s (.str s) (.str a) with | some true=>_ | some false=>_ | none=>_)=_
  simp only [eqC,beqBA,Zck]
  by_cases h:a=s
  ·subst h; rw [if_pos rfl,decide_eq_true rfl]; rfl
  ·rw [if_neg h,decide_eq_false (fun e=>h e.symm)]
   exact Zd8
theorem Zfd {α:Type} {s:ByteArray}:∀ {l:List (ByteArray × α)} {i:Nat},(Zck s l i).map (·.2)=Zaj s l
 | [],i=>rfl
 | (a,v) :: es,i=>by
  simp only [Zck,Zaj]
  by_cases h:a=s
  ·rw [if_pos h,if_pos h]; rfl
  ·rw [if_neg h,if_neg h]; exact Zfd
theorem Zb2 {h:H} {id ver:Nat} {es:List (V × V)} (ho:h.objs id=some (.map es ver)):h.mapAt id=some (es,ver):=by unfold H.mapAt; rw [ho]
theorem Zam {h:H} {id:Nat} {cs:List V} (ho:h.objs id=some (.cells cs)):h.get id=some cs:=by unfold H.get; rw [ho]
theorem Zaw {α:Type} {f:α→V} {h:H} {id ver:Nat} {l:List (ByteArray × α)} {s:ByteArray} {zero:V} (ho:h.objs id=some (.map (mapO f l) ver)) :
  lkpV h .s (.map id) (.str s) zero true=some (.tuple [((Zaj s l).map f).getD zero,.bool (Zaj s l).isSome]):=by
 simp only [lkpV,Zb2 ho,Zd8]
 rw [← Zfd (i:=0)]
 cases Zck s l 0 <;> rfl
theorem Zh0 {α:Type} {f:α→V} {h:H} {id ver:Nat} {l:List (ByteArray × α)} {s:ByteArray} {zero:V} (ho:h.objs id=some (.map (mapO f l) ver)) :
  lkpV h .s (.map id) (.str s) zero false=some (((Zaj s l).map f).getD zero):=by
 simp only [lkpV,Zb2 ho,Zd8]
 rw [← Zfd (i:=0)]
 cases Zck s l 0 <;> rfl
def insL (p:Prg):List (ByteArray × InD):=p.ins.map fun d=>(d.name,d)
def arsL (p:Prg):List (ByteArray × Int):=p.arrays.map fun d=>(d.name,d.size)
theorem Zjy {p:Prg} {s:ByteArray}:Zaj s (insL p)=inOf p s:=by
 unfold insL inOf
 induction p.ins with
 | nil=>rfl
 | cons d ds ih =>
  simp only [List.map_cons,Zaj,List.find?_cons]
  by_cases h:d.name=s
  ·rw [if_pos h,decide_eq_true h]
  ·rw [if_neg h,decide_eq_false h]; exact ih
theorem Zjz {p:Prg} {s:ByteArray}:Zaj s (arsL p)=(arOf p s).map fun i=>(p.arrays.getD i ⟨s,0⟩).size:=by
 unfold arsL arOf
 induction p.arrays with
 | nil=>rfl
 | cons d ds ih =>
  simp only [List.map_cons,Zaj,List.findIdx?_cons]
  by_cases h:d.name=s
  ·rw [if_pos h,decide_eq_true h]; rfl
  ·rw [if_neg h,decide_eq_false h,ih]
   cases List.findIdx? (fun d=>decide (d.name=s)) ds <;> rfl
theorem Zc0 {p:Prg} {s:ByteArray} {i:Nat} (h:arOf p s=some i):∃ d,p.arrays[i]?=some d∧d.name=s∧p.arrays.getD i ⟨s,0⟩=d:=by
 unfold arOf at h
 obtain ⟨hi,h1,_⟩:=List.findIdx?_eq_some_iff_getElem.1 h
 exact ⟨p.arrays[i],List.getElem?_eq_getElem hi,of_decide_eq_true h1,by rw [List.getD_eq_getElem?_getD,List.getElem?_eq_getElem hi]; rfl⟩
structure Lk where
 x:Nat
 i:Nat
 s:Nat
 v:Nat
 w:Nat
 l:Nat
 es:List (ByteArray × Int × Nat)
 ws:List (ByteArray × Nat × Nat)
def Lk.own (L:Lk):List Nat:=[L.x,L.i,L.s,L.v,L.w,L.l] ++ L.ws.map fun r=>r.2.1
def Lk.cs (L:Lk) (σ:TS):List V:=[.map L.i,.map L.s,.map L.v,.map L.w,.map L.l,I σ.steps,I σ.most,I σ.ifs]
def vkV (r:Int × Nat):V:=(Kn.mk r.1 r.2 false 0).v
def refV (r:Nat × Nat):V:=.ref r.1 0 r.2 1
def conV (n:Nat):V:=(kcon n).v
def intU (n:Int):V:=I n
def Zar (l:List Nat):List V:=l.map fun n:Nat=>I (n:Int)
structure At (p:Prg) (L:Lk) (σ:TS) (h:H):Prop where
 x:h.objs L.x=some (.cells (L.cs σ))
 i:∃ ver,h.objs L.i=some (.map (mapO InD.v (insL p)) ver)
 s:∃ ver,h.objs L.s=some (.map (mapO intU (arsL p)) ver)
 v:∃ ver,h.objs L.v=some (.map (mapO vkV L.es) ver)
 w:∃ ver,h.objs L.w=some (.map (mapO refV L.ws) ver)
 l:∃ ver,h.objs L.l=some (.map (mapO conV σ.env.loops) ver)
 es:∀ s,Zaj s L.es=σ.env.vars s
 esn:(L.es.map (·.1)).Nodup
 ws:∀ (i:Nat) (d:ArD),p.arrays[i]?=some d→∃ id ws,σ.env.words[i]?=some ws∧Zaj d.name L.ws=some (id,ws.length)∧h.objs id=some (.cells (Zar ws))
 wsn:(L.ws.map (·.1)).Nodup
 wk:∀ r ∈ L.ws,∃ d:ArD,d ∈ p.arrays∧d.name=r.1
 nd:L.own.Nodup
 lt:∀ id ∈ L.own,id < h.next
structure Fr (L L':Lk) (h h':H):Prop where
 nx:h.next ≤ h'.next
 x:L'.x=L.x
 same:∀ id,id < h.next→id ∉ L.own→h'.objs id=h.objs id
 own:∀ id ∈ L'.own,id ∈ L.own∨h.next ≤ id
theorem Fr.refl (L:Lk) (h:H):Fr L L h h:=⟨Nat.le_refl _,rfl,fun _ _ _=>rfl,fun _ hi=>.inl hi⟩
theorem Fr.trans {L L' L'':Lk} {h h' h'':H} (a:Fr L L' h h') (b:Fr L' L'' h' h''):Fr L L'' h h'':=
 ⟨Nat.le_trans a.nx b.nx,b.x.trans a.x,fun id hl hn=>by
  rw [b.same id (Nat.lt_of_lt_of_le hl a.nx) (fun hi=>(a.own id hi).elim hn (fun hh=>absurd hl (Nat.not_lt.2 hh)))]
  exact a.same id hl hn,fun id hi=>(b.own id hi).elim (fun hh=>a.own id hh) (fun hh=>.inr (Nat.le_trans a.nx hh))⟩
theorem Zac {h:H} {id j:Nat} {o:O}:(h.set id o).objs j=if j=id then some o else h.objs j:=rfl
theorem Zbd {h:H} {id:Nat} {o:O}:(h.set id o).next=h.next:=rfl
theorem Zae {h:H} {j:Nat} {o:O}:(h.new o).objs j=if j=h.next then some o else h.objs j:=rfl
theorem Zah {h:H} {o:O}:(h.new o).next=h.next + 1:=rfl
theorem Lk.x_mem (L:Lk):L.x ∈ L.own:=by simp [Lk.own]
theorem At.ne {p:Prg} {L:Lk} {σ:TS} {h:H} (A:At p L σ h):L.x ≠ L.i∧L.x ≠ L.s∧L.x ≠ L.v∧L.x ≠ L.w∧L.x ≠ L.l:=by
 have:=A.nd
 simp only [Lk.own,List.cons_append,List.nil_append,List.nodup_cons,List.mem_cons,not_or] at this
 exact ⟨this.1.1,this.1.2.1,this.1.2.2.1,this.1.2.2.2.1,this.1.2.2.2.2.1⟩
theorem Zbr {α:Type} {s:ByteArray} {v:α}:∀ {l:List (ByteArray × α)},Zaj s l=some v→(s,v) ∈ l
 | (a,u) :: es,h=>by
  simp only [Zaj] at h
  split at h
  ·rename_i e; cases h; subst e; simp
  ·exact List.mem_cons_of_mem _ (Zbr h)
theorem At.ws_own {p:Prg} {L:Lk} {σ:TS} {h:H} (A:At p L σ h) {s:ByteArray} {id n:Nat} (hf:Zaj s L.ws=some (id,n)):id ∈ L.own∧id ≠ L.x∧id ≠ L.i∧id ≠ L.s∧id ≠ L.v∧id ≠ L.w∧id ≠ L.l:=by
 have hm:id ∈ L.ws.map fun r=>r.2.1:=List.mem_map.2 ⟨_,Zbr hf,rfl⟩
 have hd:=A.nd
 simp only [Lk.own,List.nodup_append] at hd
 refine ⟨by unfold Lk.own; exact List.mem_append_right _ hm,?_⟩
 have:=fun a ha=>hd.2.2 a ha id hm
 simp only [List.mem_cons,List.not_mem_nil,or_false,forall_eq_or_imp,forall_eq] at this
 exact ⟨this.1.symm,this.2.1.symm,this.2.2.1.symm,this.2.2.2.1.symm,this.2.2.2.2.1.symm,this.2.2.2.2.2.symm⟩
theorem At.count {p:Prg} {L:Lk} {σ:TS} {h:H} (A:At p L σ h) (σ':TS) (he:σ'.env=σ.env):At p L σ' (h.set L.x (.cells (L.cs σ')))∧Fr L L h (h.set L.x (.cells (L.cs σ'))):=by
 obtain ⟨n1,n2,n3,n4,n5⟩:=A.ne
 refine ⟨⟨by simp [Zac],?_,?_,?_,?_,?_,by rw [he]; exact A.es,A.esn,fun i d hd=>?_,A.wsn,A.wk,A.nd,A.lt⟩,⟨Nat.le_refl _,rfl,fun id _ hn=>?_,fun id hi=>.inl hi⟩⟩
 ·simp only [Zac,if_neg n1.symm]; exact A.i
 ·simp only [Zac,if_neg n2.symm]; exact A.s
 ·simp only [Zac,if_neg n3.symm]; exact A.v
 ·simp only [Zac,if_neg n4.symm]; exact A.w
 ·simp only [Zac,if_neg n5.symm]; rw [he]; exact A.l
 ·obtain ⟨id,ws,a,b,c⟩:=A.ws i d hd
  refine ⟨id,ws,by rw [he]; exact a,b,?_⟩
  rw [Zac,if_neg (A.ws_own b).2.1]; exact c
 ·rw [Zac,if_neg (fun e=>hn (by rw [e]; exact L.x_mem))]
end Go.Ab
namespace Go.Ab
theorem Zak {d:InD}:d.v=.agg [.str d.name,I d.frm,I d.width,I d.size]:=rfl
theorem Zab {k:Kn}:k.v=.agg [I k.kind,I k.w,.bool k.is,W k.val]:=rfl
theorem Za8 {v:V}:(none:Option V).getD v=v:=rfl
theorem getD_some {u v:V}:(some u).getD v=u:=rfl
theorem Za7 {α:Type} {f:α→V}:(none:Option α).map f=none:=rfl
theorem Za2 {α:Type} {f:α→V} {a:α}:(some a).map f=some (f a):=rfl
theorem Zap {α:Type}:(none:Option α).isSome=false:=rfl
theorem Zat {α:Type} {a:α}:(some a).isSome=true:=rfl
theorem wid_pos (n:Nat):1 ≤ wid n:=by unfold wid; omega
theorem wid_le {n k:Nat} (h:n < 2 ^ k) (hk:1 ≤ k):wid n ≤ k:=by
 have:=(blen_le (k:=k)).2 h
 unfold wid; omega
theorem lt_wid (n:Nat):n < 2 ^ wid n:=by
 have h:n < 2 ^ blen n:=blen_le.1 (Nat.le_refl _)
 exact Nat.lt_of_lt_of_le h (Nat.pow_le_pow_right (by decide) (by unfold wid; omega))
theorem Zqc {n:Nat} (h:n < 1152921504606846976):KOk (kcon n):=⟨.inl rfl,wid_le (k:=60) (by omega) (by decide),lt_wid n,fun h=>absurd (show (1:Int)=2 from h) (by decide),fun h=>absurd (show true=false from h) (by decide)⟩
theorem Zqb {w:Nat} (h:w ≤ 60):KOk (knum w):=⟨.inl rfl,h,Nat.two_pow_pos _,fun h=>absurd (show (1:Int)=2 from h) (by decide),fun _=>rfl⟩
theorem Zqd:KOk kboo:=⟨.inr rfl,by decide,by decide,fun _=>⟨rfl,rfl⟩,fun _=>rfl⟩
theorem KOk.lt {k:Kn} (h:KOk k):k.val < 1152921504606846976:=Nat.lt_of_lt_of_le h.val (Nat.le_trans (Nat.pow_le_pow_right (by decide) h.w) (by decide))
namespace YtihjhelbdbeokaaGreatDoor
section
variable {h:H} {K:Out→H→Prop} {p:Prg} {L:Lk} {σ:TS}
def Zdb (e:Int):V:=.iface 156 (.agg [I e])
theorem Zd9 {e:Int} (hK:K (.pan (Zdb e)) h):R 96 [I e] h K:=by
 refine run96 (Nat.le_of_ble_eq_true rfl) ?_
 simp -dsimp -implicitDefEqProofs only [↓STP,STQ,seval,ir96]
 rw [opT_pan (t:=156) (v:=.agg [I e]) rfl]
 exact hK
theorem Zhy {w:Nat} (hK:K (.ret (knum w).v) h):R 198 [I w] h K:=by
 refine run198 (Nat.le_of_ble_eq_true rfl) ?_
 simp -dsimp -implicitDefEqProofs only [↓STP,STQ,seval,ir198,Zad]
 exact hK
theorem Zn9 {n:Nat} (hn:n < 18446744073709551616) (hK:K (.ret (kcon n).v) h):R 178 [W n] h K:=by
 refine run178 (Nat.le_of_ble_eq_true rfl) ?_
 simp -dsimp -implicitDefEqProofs only [↓STP,STQ,seval,ir178]
 refine Zhs hn ?_
 simp -dsimp -implicitDefEqProofs only [↓STP,STQ,seval,Zad]
 exact hK
theorem Zen {k:Kn} {t:Int} (h1:k.kind=t→K (.ret (.tuple [])) h) (h2:k.kind ≠ t→K (.pan (Zdb 5)) h):R 147 [k.v,I t] h K:=by
 refine run147 (Nat.le_of_ble_eq_true rfl) ?_
 by_cases c:k.kind=t
 ·simp -dsimp -implicitDefEqProofs only [↓STP,STQ,seval,ir147,Zab,eq_true c]
  exact h1 c
 ·simp -dsimp -implicitDefEqProofs only [↓STP,STQ,seval,ir147,Zab,eq_false c]
  refine Zd9 ?_
  simp -dsimp -implicitDefEqProofs only [↓STP,STQ,seval]
  exact h2 c
theorem Zvb {k:Kn} {size:Int} (hs:0 ≤ size) (hs2:size ≤ 9223372036854775807) (hv:k.val < 1152921504606846976) (hK:Ans (Zb0 k size) (fun n=>K (.ret (I n)) h) (fun e=>K (.pan (Zdb e)) h)):R 146 [k.v,I size] h K:=by
 refine run146 (Nat.le_of_ble_eq_true rfl) ?_
 have w1:IntKind.u64.wrap size=size:=Zay hs (by omega)
 have w2:IntKind.i64.wrap (k.val:Int)=(k.val:Int):=wrap_i64 (by omega) (by omega)
 unfold Zb0 at hK
 by_cases c:k.kind=1
 ·cases ci:k.is with
  | false =>
   rw [if_pos (.inr ci)] at hK
   simp -dsimp -implicitDefEqProofs only [↓STP,STQ,seval,ir146,Zab,eq_true c,ci]
   refine Zd9 ?_
   simp -dsimp -implicitDefEqProofs only [↓STP,STQ,seval]
   exact hK
  | true =>
   rw [if_neg (by simp [c,ci])] at hK
   by_cases cs:size ≤ (k.val:Int)
   ·rw [if_pos cs] at hK
    simp -dsimp -implicitDefEqProofs only [↓STP,STQ,seval,ir146,Zab,eq_true c,ci,w1,eq_true cs]
    refine Zd9 ?_
    simp -dsimp -implicitDefEqProofs only [↓STP,STQ,seval]
    exact hK
   ·rw [if_neg cs] at hK
    simp -dsimp -implicitDefEqProofs only [↓STP,STQ,seval,ir146,Zab,eq_true c,ci,w1,eq_false cs,w2]
    exact hK
 ·rw [if_pos (.inl c)] at hK
  simp -dsimp -implicitDefEqProofs only [↓STP,STQ,seval,ir146,Zab,eq_false c]
  refine Zd9 ?_
  simp -dsimp -implicitDefEqProofs only [↓STP,STQ,seval]
  exact hK
theorem takenG {s:ByteArray} (A:At p L σ h) (hK:K (.ret (.bool (Zdl p σ.env s))) h):R 95 [.ptr L.x 0,.str s] h K:=by
 refine run95 (Nat.le_of_ble_eq_true rfl) ?_
 obtain ⟨v1,i1⟩:=A.i
 obtain ⟨v2,i2⟩:=A.s
 obtain ⟨v3,i3⟩:=A.l
 have gx:=Zam A.x
 unfold Zdl at hK
 rw [← Zjy] at hK
 have e2:(Zaj s (arsL p)).isSome=(arOf p s).isSome:=by rw [Zjz]; cases arOf p s <;> rfl
 rw [← e2] at hK
 cases c1:Zaj s (insL p) <;> cases c2:Zaj s (arsL p) <;> cases c3:Zaj s σ.env.loops <;> rw [c1,c2,c3] at hK <;>
  (simp -dsimp -implicitDefEqProofs only [↓STP,STQ,seval,ir95,gx,Lk.cs,Zaw i1,Zaw i2,Zaw i3,c1,c2,c3,Za8,getD_some,Za7,Za2,Zap,Zat,Zak,intU,conV,Zab,Zad]; exact hK)
theorem stepG (A:At p L σ h) (hs:σ.steps ≤ 10000) (hK:Ans (Zhu σ) (fun σ'=>∀ h',At p L σ' h'→Fr L L h h'→K (.ret (.tuple [])) h') (fun e=>K (.pan (Zdb e)) h)):R 119 [.ptr L.x 0] h K:=by
 refine run119 (Nat.le_of_ble_eq_true rfl) ?_
 have gx:=Zam A.x
 unfold Zhu at hK
 by_cases c:10000 ≤ σ.steps
 ·have c':(10000:Int) ≤ (σ.steps:Int):=by omega
  rw [if_pos c] at hK
  simp -dsimp -implicitDefEqProofs only [↓STP,STQ,seval,ir119,gx,Lk.cs,eq_true c']
  refine Zd9 ?_
  simp -dsimp -implicitDefEqProofs only [↓STP,STQ,seval]
  exact hK
 ·have c':¬ (10000:Int) ≤ (σ.steps:Int):=by omega
  rw [if_neg c] at hK
  have w1:IntKind.i64.wrap ((σ.steps:Int) + 1)=((σ.steps + 1:Nat):Int):=by rw [wrap_i64] <;> omega
  simp -dsimp -implicitDefEqProofs only [↓STP,STQ,seval,ir119,gx,Lk.cs,eq_false c',w1,Zad]
  obtain ⟨A',F⟩:=A.count { σ with steps:=σ.steps + 1 } rfl
  exact hK _ A' F
theorem toldG {k:Kn} (A:At p L σ h) (hw:k.w ≤ 1000) (hm:σ.most ≤ 60) (hK:Ans (Zf8 σ.most k) (fun r=>∀ h',At p L { σ with most:=r.2 } h'→Fr L L h h'→K (.ret r.1.v) h') (fun e=>K (.pan (Zdb e)) h)):R 179 [.ptr L.x 0,k.v] h K:=by
 refine run179 (Nat.le_of_ble_eq_true rfl) ?_
 have gx:=Zam A.x
 unfold Zf8 at hK
 by_cases c:k.kind=1
 ·rw [if_pos c] at hK
  by_cases d:60 < k.w
  ·have d':(60:Int) < (k.w:Int):=by omega
   rw [if_pos d] at hK
   simp -dsimp -implicitDefEqProofs only [↓STP,STQ,seval,ir179,Zab,eq_true c,eq_true d']
   refine Zd9 ?_
   simp -dsimp -implicitDefEqProofs only [↓STP,STQ,seval]
   exact hK
  ·have d':¬ (60:Int) < (k.w:Int):=by omega
   rw [if_neg d] at hK
   have hm2:(if (k.w:Int) > (σ.most:Int) then (k.w:Int) else (σ.most:Int))=((max σ.most k.w:Nat):Int):=by split <;> omega
   simp -dsimp -implicitDefEqProofs only [↓STP,STQ,seval,ir179,Zab,eq_true c,eq_false d',gx,Lk.cs,Za1,hm2,Zad]
   obtain ⟨A',F⟩:=A.count { σ with most:=max σ.most k.w } rfl
   exact hK _ A' F
 ·rw [if_neg c] at hK
  simp -dsimp -implicitDefEqProofs only [↓STP,STQ,seval,ir179,Zab,eq_false c,Zad]
  exact hK _ A (Fr.refl _ _)
end
end YtihjhelbdbeokaaGreatDoor
end Go.Ab
namespace Go.Ab
structure PV (p:Prg):Prop where
 ins:∀ d ∈ p.ins,1 ≤ d.width∧d.width ≤ 16∧0 ≤ d.size∧d.size ≤ 64
 ars:∀ d ∈ p.arrays,1 ≤ d.size∧d.size ≤ 64
 nm:(p.ins.map InD.name ++ p.arrays.map ArD.name).Nodup
theorem Zeq {p:Prg} {s:ByteArray} {d:InD} (h:inOf p s=some d):d ∈ p.ins∧d.name=s:=⟨List.mem_of_find?_eq_some h,by have:=List.find?_some h; exact of_decide_eq_true this⟩
theorem not_both {p:Prg} (hp:PV p) {s:ByteArray} {d:InD} {i:Nat} (h:inOf p s=some d) (h':arOf p s=some i):False:=by
 obtain ⟨a,b⟩:=Zeq h
 obtain ⟨e,c,d',_⟩:=Zc0 h'
 have hd:=(List.nodup_append.1 hp.nm).2.2 d.name (List.mem_map.2 ⟨d,a,rfl⟩) e.name (List.mem_map.2 ⟨e,List.mem_of_getElem? c,rfl⟩)
 exact hd (b.trans d'.symm)
theorem Zcr {ws:List Nat} {n:Nat} (h:n < ws.length):(Zar ws)[n]?=some (I ((ws.getD n 0:Nat):Int)):=by
 unfold Zar
 rw [List.getElem?_map,List.getElem?_eq_getElem h,List.getD_eq_getElem?_getD,List.getElem?_eq_getElem h]; rfl
namespace YtihjhelbdbeokaaGreatDoor
section
variable {h:H} {K:Out→H→Prop} {p:Prg} {L:Lk} {σ:TS}
theorem nameG {s:ByteArray} (hp:PV p) (A:At p L σ h) (hK:Ans (Zjo p σ.env s) (fun k=>K (.ret k.v) h) (fun e=>K (.pan (Zdb e)) h)):R 180 [.ptr L.x 0,.str s] h K:=by
 refine run180 (Nat.le_of_ble_eq_true rfl) ?_
 obtain ⟨v1,i1⟩:=A.i
 obtain ⟨v2,i2⟩:=A.v
 obtain ⟨v3,i3⟩:=A.l
 have gx:=Zam A.x
 unfold Zjo at hK
 have e1:=Zjy (p:=p) (s:=s)
 cases c1:Zaj s σ.env.loops with
 | some n =>
  rw [c1] at hK
  simp -dsimp -implicitDefEqProofs only [↓STP,STQ,seval,ir180,gx,Lk.cs,Zaw i3,c1,Za8,getD_some,Za7,Za2,Zap,Zat,conV,Zab,Zad]
  exact hK
 | none =>
  rw [c1] at hK
  rw [← A.es] at hK
  cases c2:Zaj s L.es with
  | some r =>
   obtain ⟨k,w⟩:=r
   rw [c2] at hK
   simp -dsimp -implicitDefEqProofs only [↓STP,STQ,seval,ir180,gx,Lk.cs,Zaw i3,Zaw i2,c1,c2,Za8,getD_some,Za7,Za2,Zap,Zat,vkV,Zab,Zad]
   exact hK
  | none =>
   rw [c2] at hK
   cases c3:inOf p s with
   | none =>
    rw [c3] at hK e1
    simp -dsimp -implicitDefEqProofs only [↓STP,STQ,seval,ir180,gx,Lk.cs,Zaw i3,Zaw i2,Zaw i1,c1,c2,e1,Za8,getD_some,Za7,Za2,Zap,Zat,Zad]
    refine Zd9 ?_
    simp -dsimp -implicitDefEqProofs only [↓STP,STQ,seval]
    exact hK
   | some d =>
    rw [c3] at hK e1
    have hd:=hp.ins d (Zeq c3).1
    simp only at hK
    by_cases cs:d.size=0
    ·rw [if_pos cs] at hK
     have hw:d.width=((d.width.toNat:Nat):Int):=by omega
     simp -dsimp -implicitDefEqProofs only [↓STP,STQ,seval,ir180,gx,Lk.cs,Zaw i3,Zaw i2,Zaw i1,c1,c2,e1,Za8,getD_some,Za7,Za2,Zap,Zat,Zak,eq_true cs,Zad]
     rw [hw]
     refine Zhy ?_
     simp -dsimp -implicitDefEqProofs only [↓STP,STQ,seval,Zad,Zab]
     exact hK
    ·rw [if_neg cs] at hK
     simp -dsimp -implicitDefEqProofs only [↓STP,STQ,seval,ir180,gx,Lk.cs,Zaw i3,Zaw i2,Zaw i1,c1,c2,e1,Za8,getD_some,Za7,Za2,Zap,Zat,Zak,eq_false cs,Zad]
     refine Zd9 ?_
     simp -dsimp -implicitDefEqProofs only [↓STP,STQ,seval]
     exact hK
theorem indexG {s:ByteArray} {k:Kn} (hp:PV p) (A:At p L σ h) (ok:EOkT p σ.env) (hv:KOk k) (hK:Ans (Ze9 p σ.env s k) (fun k=>K (.ret k.v) h) (fun e=>K (.pan (Zdb e)) h)):R 181 [.ptr L.x 0,.str s,k.v] h K:=by
 refine run181 (Nat.le_of_ble_eq_true rfl) ?_
 obtain ⟨v1,i1⟩:=A.i
 obtain ⟨v2,i2⟩:=A.s
 obtain ⟨v3,i3⟩:=A.w
 have gx:=Zam A.x
 unfold Ze9 at hK
 have e1:=Zjy (p:=p) (s:=s)
 have e2:=Zjz (p:=p) (s:=s)
 cases c1:inOf p s with
 | some d =>
  have c2:arOf p s=none:=by
   cases c2:arOf p s with
   | none=>rfl
   | some i=>exact (not_both hp c1 c2).elim
  rw [c1] at e1 hK
  rw [c2] at e2 hK
  have hd:=hp.ins d (Zeq c1).1
  simp only at hK
  by_cases cs:d.size=0
  ·rw [if_pos cs] at hK
   have cs':¬ (0:Int) < d.size:=by omega
   simp -dsimp -implicitDefEqProofs only [↓STP,STQ,seval,ir181,Zab,gx,Lk.cs,Zaw i2,Zaw i1,e1,e2,Za8,getD_some,Za7,Za2,Zap,Zat,Zak,eq_false cs',Zad,Option.map_none]
   refine Zd9 ?_
   simp -dsimp -implicitDefEqProofs only [↓STP,STQ,seval]
   exact hK
  ·rw [if_neg cs] at hK
   have cs':(0:Int) < d.size:=by omega
   have hw:d.width=((d.width.toNat:Nat):Int):=by omega
   simp -dsimp -implicitDefEqProofs only [↓STP,STQ,seval,ir181,Zab,gx,Lk.cs,Zaw i2,Zaw i1,e1,e2,Za8,getD_some,Za7,Za2,Zap,Zat,Zak,eq_true cs',Zad]
   rw [show (V.agg [I k.kind,I k.w,.bool k.is,W k.val])=k.v from rfl]
   refine Zvb (by omega) (by omega) hv.lt ?_
   cases hpl:Zb0 k d.size with
   | error e =>
    rw [hpl] at hK
    simp only [Zbk,Zf4] at hK ⊢
    simp -dsimp -implicitDefEqProofs only [↓STP,STQ,seval]
    exact hK
   | ok n =>
    rw [hpl] at hK
    simp only [Zc1,Zau] at hK ⊢
    simp -dsimp -implicitDefEqProofs only [↓STP,STQ,seval]
    rw [hw]
    refine Zhy ?_
    simp -dsimp -implicitDefEqProofs only [↓STP,STQ,seval,Zad,Zab]
    exact hK
 | none =>
  rw [c1] at e1 hK
  cases c2:arOf p s with
  | none =>
   rw [c2] at e2 hK
   simp -dsimp -implicitDefEqProofs only [↓STP,STQ,seval,ir181,Zab,gx,Lk.cs,Zaw i2,Zaw i1,e1,e2,Za8,getD_some,Za7,Za2,Zap,Zat,Zak,Zad,Option.map_none]
   refine Zd9 ?_
   simp -dsimp -implicitDefEqProofs only [↓STP,STQ,seval]
   exact hK
  | some i =>
   rw [c2] at e2 hK
   obtain ⟨d,hd,hn,hg⟩:=Zc0 c2
   rw [Option.map_some,hg] at e2
   simp only at hK
   rw [hg] at hK
   obtain ⟨id,ws,hws,hfw,hob⟩:=A.ws i d hd
   rw [hn] at hfw
   have hlen:=(ok.words i ws d hws hd).1
   have hds:=hp.ars d (List.mem_of_getElem? hd)
   simp -dsimp -implicitDefEqProofs only [↓STP,STQ,seval,ir181,Zab,gx,Lk.cs,Zaw i2,Zaw i1,e1,e2,Za8,getD_some,Za7,Za2,Zap,Zat,Zak,intU,Zad,Zh0 i3,hfw,refV]
   rw [show (V.agg [I k.kind,I k.w,.bool k.is,W k.val])=k.v from rfl]
   refine Zvb (by omega) (by omega) hv.lt ?_
   cases hpl:Zb0 k d.size with
   | error e =>
    rw [hpl] at hK
    simp only [Zbk,Zf4] at hK ⊢
    simp -dsimp -implicitDefEqProofs only [↓STP,STQ,seval]
    exact hK
   | ok n =>
    rw [hpl] at hK
    simp only [Zc1,Zau] at hK ⊢
    have hn:n < ws.length:=by
     unfold Zb0 at hpl
     split at hpl
     ·cases hpl
     ·split at hpl
      ·cases hpl
      ·cases hpl; omega
    have gid:=Zam hob
    have hnI:((n:Nat):Int) < ((ws.length:Nat):Int):=by omega
    simp -dsimp -implicitDefEqProofs only [↓STP,STQ,seval,gx,Lk.cs,gid,Zh0 i3,hfw,refV,getD_some,Za2,Zcr hn,eq_true hnI,Nat.mul_one]
    refine Zhy ?_
    simp -dsimp -implicitDefEqProofs only [↓STP,STQ,seval,Zad,Zab]
    have hgw:σ.env.words.getD i []=ws:=by rw [List.getD_eq_getElem?_getD,hws]; rfl
    rw [hgw] at hK
    exact hK
theorem opG {o:Int} {a b:Kn} (o1:1 ≤ o) (o2:o ≤ 7) (ha:KOk a) (hb:KOk b)
  (hK:Ans (opK o a b) (fun r=>∀ v:Nat,(r.w ≤ 60→v=r.val)→K (.ret ({ r with val:=v }:Kn).v) h) (fun e=>K (.pan (Zdb e)) h)):R 182 [I o,a.v,b.v] h K:=by
 refine run182 (Nat.le_of_ble_eq_true rfl) ?_
 have oo:o=1∨o=2∨o=3∨o=4∨o=5∨o=6∨o=7:=by omega
 unfold opK at hK
 have hal:=ha.lt
 have hbl:=hb.lt
 have haw:=ha.w
 have hbw:=hb.w
 have ga:(V.agg [I a.kind,I a.w,.bool a.is,W a.val])=a.v:=rfl
 have gb:(V.agg [I b.kind,I b.w,.bool b.is,W b.val])=b.v:=rfl
 have hm:(if (b.w:Int) > (a.w:Int) then (b.w:Int) else (a.w:Int))=((max a.w b.w:Nat):Int):=by split <;> omega
 have w1:IntKind.i64.wrap (((max a.w b.w:Nat):Int) + 1)=((max a.w b.w + 1:Nat):Int):=by rw [wrap_i64] <;> omega
 have w2:IntKind.i64.wrap ((a.w:Int) + (b.w:Int))=((a.w + b.w:Nat):Int):=by rw [wrap_i64] <;> omega
 have w3:=wuadd (show a.val + b.val < 18446744073709551616 by omega)
 have w4:IntKind.u64.wrap ((a.val:Int) * (b.val:Int))=((a.val * b.val % 18446744073709551616:Nat):Int):=by rw [Zlu,← Int.natCast_mul]; exact (Int.natCast_emod _ _).symm
 have pm:a.w + b.w ≤ 60→a.val * b.val % 18446744073709551616=a.val * b.val:=fun hw=>by
  have h1:a.val * b.val < 2 ^ (a.w + b.w):=by rw [Nat.pow_add]; exact Nat.mul_lt_mul'' ha.val hb.val
  have h2:2 ^ (a.w + b.w) ≤ 2 ^ 60:=Nat.pow_le_pow_right (by decide) hw
  exact Nat.mod_eq_of_lt (by omega)
 rcases oo with rfl | rfl | rfl | rfl | rfl | rfl | rfl
 ·have hk:Zc2 1=1:=by decide
  rw [hk] at hK
  simp -dsimp -implicitDefEqProofs only [↓STP,STQ,seval,ir182,Zab]
  rw [ga]
  refine Zen (fun c1=>?_) (fun c1=>?_)
  rotate_left
  ·rw [if_pos (.inl c1)] at hK
   simp -dsimp -implicitDefEqProofs only [↓STP,STQ,seval]
   exact hK
  simp -dsimp -implicitDefEqProofs only [↓STP,STQ,seval]
  rw [gb]
  refine Zen (fun c2=>?_) (fun c2=>?_)
  rotate_left
  ·rw [if_pos (.inr c2)] at hK
   simp -dsimp -implicitDefEqProofs only [↓STP,STQ,seval]
   exact hK
  rw [if_neg (by simp [c1,c2])] at hK
  rw [if_pos rfl] at hK
  simp -dsimp -implicitDefEqProofs only [↓STP,STQ,seval,Zad,Za1,hm,w1]
  refine Zhy ?_
  simp -dsimp -implicitDefEqProofs only [↓STP,STQ,seval,Zad,Zab,w3]
  cases ca:a.is <;> cases cb:b.is <;> rw [ca,cb] at hK <;> simp -dsimp -implicitDefEqProofs only [↓STP,STQ,seval,Zad,ca,cb]
  ·exact hK 0 (fun _=>rfl)
  ·exact hK 0 (fun _=>rfl)
  ·exact hK 0 (fun _=>rfl)
  ·exact hK _ (fun _=>rfl)
 ·have hk:Zc2 2=1:=by decide
  rw [hk] at hK
  simp -dsimp -implicitDefEqProofs only [↓STP,STQ,seval,ir182,Zab]
  rw [ga]
  refine Zen (fun c1=>?_) (fun c1=>?_)
  rotate_left
  ·rw [if_pos (.inl c1)] at hK
   simp -dsimp -implicitDefEqProofs only [↓STP,STQ,seval]
   exact hK
  simp -dsimp -implicitDefEqProofs only [↓STP,STQ,seval]
  rw [gb]
  refine Zen (fun c2=>?_) (fun c2=>?_)
  rotate_left
  ·rw [if_pos (.inr c2)] at hK
   simp -dsimp -implicitDefEqProofs only [↓STP,STQ,seval]
   exact hK
  rw [if_neg (by simp [c1,c2])] at hK
  rw [if_neg (by decide)] at hK
  rw [if_pos rfl] at hK
  simp -dsimp -implicitDefEqProofs only [↓STP,STQ,seval,Zad]
  refine Zhy ?_
  by_cases cs:(b.val:Int) < (a.val:Int)
  ·have w5:IntKind.u64.wrap ((a.val:Int) - (b.val:Int))=((a.val - b.val:Nat):Int):=by rw [Zay] <;> omega
   simp -dsimp -implicitDefEqProofs only [↓STP,STQ,seval,Zad,Zab,eq_true cs,w5]
   cases ca:a.is <;> cases cb:b.is <;> rw [ca,cb] at hK <;> simp -dsimp -implicitDefEqProofs only [↓STP,STQ,seval,Zad,ca,cb]
   ·exact hK 0 (fun _=>rfl)
   ·exact hK 0 (fun _=>rfl)
   ·exact hK 0 (fun _=>rfl)
   ·exact hK _ (fun _=>rfl)
  ·simp -dsimp -implicitDefEqProofs only [↓STP,STQ,seval,Zad,Zab,eq_false cs]
   cases ca:a.is <;> cases cb:b.is <;> rw [ca,cb] at hK <;> simp -dsimp -implicitDefEqProofs only [↓STP,STQ,seval,Zad,ca,cb]
   ·exact hK 0 (fun _=>rfl)
   ·exact hK 0 (fun _=>rfl)
   ·exact hK 0 (fun _=>rfl)
   ·exact hK _ (fun _=>by show 0=a.val - b.val; omega)
 ·have hk:Zc2 3=1:=by decide
  rw [hk] at hK
  simp -dsimp -implicitDefEqProofs only [↓STP,STQ,seval,ir182,Zab]
  rw [ga]
  refine Zen (fun c1=>?_) (fun c1=>?_)
  rotate_left
  ·rw [if_pos (.inl c1)] at hK
   simp -dsimp -implicitDefEqProofs only [↓STP,STQ,seval]
   exact hK
  simp -dsimp -implicitDefEqProofs only [↓STP,STQ,seval]
  rw [gb]
  refine Zen (fun c2=>?_) (fun c2=>?_)
  rotate_left
  ·rw [if_pos (.inr c2)] at hK
   simp -dsimp -implicitDefEqProofs only [↓STP,STQ,seval]
   exact hK
  rw [if_neg (by simp [c1,c2])] at hK
  rw [if_neg (by decide)] at hK
  rw [if_neg (by decide)] at hK
  rw [if_pos rfl] at hK
  simp -dsimp -implicitDefEqProofs only [↓STP,STQ,seval,Zad,w2]
  refine Zhy ?_
  simp -dsimp -implicitDefEqProofs only [↓STP,STQ,seval,Zad,Zab,w4]
  cases ca:a.is <;> cases cb:b.is <;> rw [ca,cb] at hK <;> simp -dsimp -implicitDefEqProofs only [↓STP,STQ,seval,Zad,ca,cb]
  ·exact hK 0 (fun _=>rfl)
  ·exact hK 0 (fun _=>rfl)
  ·exact hK 0 (fun _=>rfl)
  ·exact hK _ (pm)
 ·have hk:Zc2 4=1:=by decide
  rw [hk] at hK
  simp -dsimp -implicitDefEqProofs only [↓STP,STQ,seval,ir182,Zab]
  rw [ga]
  refine Zen (fun c1=>?_) (fun c1=>?_)
  rotate_left
  ·rw [if_pos (.inl c1)] at hK
   simp -dsimp -implicitDefEqProofs only [↓STP,STQ,seval]
   exact hK
  simp -dsimp -implicitDefEqProofs only [↓STP,STQ,seval]
  rw [gb]
  refine Zen (fun c2=>?_) (fun c2=>?_)
  rotate_left
  ·rw [if_pos (.inr c2)] at hK
   simp -dsimp -implicitDefEqProofs only [↓STP,STQ,seval]
   exact hK
  rw [if_neg (by simp [c1,c2])] at hK
  rw [if_neg (by decide)] at hK
  rw [if_neg (by decide)] at hK
  rw [if_neg (by decide)] at hK
  simp -dsimp -implicitDefEqProofs only [↓STP,STQ,seval,Zad]
  exact hK 0 (fun _=>rfl)
 ·have hk:Zc2 5=1:=by decide
  rw [hk] at hK
  simp -dsimp -implicitDefEqProofs only [↓STP,STQ,seval,ir182,Zab]
  rw [ga]
  refine Zen (fun c1=>?_) (fun c1=>?_)
  rotate_left
  ·rw [if_pos (.inl c1)] at hK
   simp -dsimp -implicitDefEqProofs only [↓STP,STQ,seval]
   exact hK
  simp -dsimp -implicitDefEqProofs only [↓STP,STQ,seval]
  rw [gb]
  refine Zen (fun c2=>?_) (fun c2=>?_)
  rotate_left
  ·rw [if_pos (.inr c2)] at hK
   simp -dsimp -implicitDefEqProofs only [↓STP,STQ,seval]
   exact hK
  rw [if_neg (by simp [c1,c2])] at hK
  rw [if_neg (by decide)] at hK
  rw [if_neg (by decide)] at hK
  rw [if_neg (by decide)] at hK
  simp -dsimp -implicitDefEqProofs only [↓STP,STQ,seval,Zad]
  exact hK 0 (fun _=>rfl)
 ·have hk:Zc2 6=2:=by decide
  rw [hk] at hK
  simp -dsimp -implicitDefEqProofs only [↓STP,STQ,seval,ir182,Zab]
  rw [ga]
  refine Zen (fun c1=>?_) (fun c1=>?_)
  rotate_left
  ·rw [if_pos (.inl c1)] at hK
   simp -dsimp -implicitDefEqProofs only [↓STP,STQ,seval]
   exact hK
  simp -dsimp -implicitDefEqProofs only [↓STP,STQ,seval]
  rw [gb]
  refine Zen (fun c2=>?_) (fun c2=>?_)
  rotate_left
  ·rw [if_pos (.inr c2)] at hK
   simp -dsimp -implicitDefEqProofs only [↓STP,STQ,seval]
   exact hK
  rw [if_neg (by simp [c1,c2])] at hK
  rw [if_neg (by decide)] at hK
  rw [if_neg (by decide)] at hK
  rw [if_neg (by decide)] at hK
  simp -dsimp -implicitDefEqProofs only [↓STP,STQ,seval,Zad]
  exact hK 0 (fun _=>rfl)
 ·have hk:Zc2 7=2:=by decide
  rw [hk] at hK
  simp -dsimp -implicitDefEqProofs only [↓STP,STQ,seval,ir182,Zab]
  rw [ga]
  refine Zen (fun c1=>?_) (fun c1=>?_)
  rotate_left
  ·rw [if_pos (.inl c1)] at hK
   simp -dsimp -implicitDefEqProofs only [↓STP,STQ,seval]
   exact hK
  simp -dsimp -implicitDefEqProofs only [↓STP,STQ,seval]
  rw [gb]
  refine Zen (fun c2=>?_) (fun c2=>?_)
  rotate_left
  ·rw [if_pos (.inr c2)] at hK
   simp -dsimp -implicitDefEqProofs only [↓STP,STQ,seval]
   exact hK
  rw [if_neg (by simp [c1,c2])] at hK
  rw [if_neg (by decide)] at hK
  rw [if_neg (by decide)] at hK
  rw [if_neg (by decide)] at hK
  simp -dsimp -implicitDefEqProofs only [↓STP,STQ,seval,Zad]
  exact hK 0 (fun _=>rfl)
end
end YtihjhelbdbeokaaGreatDoor
end Go.Ab
namespace Go.Ab
theorem Zx4 {m:Nat} {k:Kn} {r:Kn × Nat} (h:Zf8 m k=.ok r):r.1=k∧(k.kind=1→k.w ≤ 60)∧(m ≤ 60→r.2 ≤ 60)∧m ≤ r.2∧(k.kind=1→k.w ≤ r.2):=by
 unfold Zf8 at h
 split at h
 ·rename_i hk
  split at h
  ·cases h
  ·cases h
   exact ⟨rfl,fun _=>by omega,fun _=>by show max m k.w ≤ 60; omega,by show m ≤ max m k.w; omega,fun _=>by show k.w ≤ max m k.w; omega⟩
 ·rename_i hk
  cases h
  exact ⟨rfl,fun h=>absurd h hk,fun h=>h,Nat.le_refl _,fun h=>absurd h hk⟩
theorem Zuf {a m:Nat} {k:Kn}:Zf8 (max a m) k=andT (Zf8 m k) fun r=>.ok (r.1,max a r.2):=by
 unfold Zf8
 split
 ·split
  ·rfl
  ·simp only [Zau,Nat.max_assoc]
 ·rfl
structure KMade (r:Kn):Prop where
 w:r.w ≤ 1000
 num:r.kind=1→r.w ≤ 60→KOk r
 other:r.kind ≠ 1→KOk r
theorem Zf7 {r:Kn} (h:KOk r):KMade r:=⟨by have:=h.w; omega,fun _ _=>h,fun _=>h⟩
theorem opK_ok {o:Int} {a b r:Kn} (ha:KOk a) (hb:KOk b) (h:opK o a b=.ok r):KMade r:=by
 unfold opK at h
 have haw:=ha.w
 have hbw:=hb.w
 split at h
 ·cases h
 ·split at h
  ·cases h
   refine ⟨by show max a.w b.w + 1 ≤ 1000; omega,fun _ hw=>⟨.inl rfl,hw,?_,fun h=>absurd (show (1:Int)=2 from h) (by decide),fun h=>by show (if _ then _ else _)=0; rw [if_neg (by rw [show (a.is && b.is)=false from h]; decide)]⟩,fun h=>absurd rfl h⟩
   show (if _ then a.val + b.val else 0) < 2 ^ (max a.w b.w + 1)
   have h1:2 ^ a.w ≤ 2 ^ max a.w b.w:=Nat.pow_le_pow_right (by decide) (by omega)
   have h2:2 ^ b.w ≤ 2 ^ max a.w b.w:=Nat.pow_le_pow_right (by decide) (by omega)
   have h3:=ha.val
   have h4:=hb.val
   rw [Nat.pow_succ]
   split
   ·show a.val + b.val < 2 ^ max a.w b.w * 2; omega
   ·show 0 < 2 ^ max a.w b.w * 2; omega
  ·split at h
   ·cases h
    refine ⟨by show a.w ≤ 1000; omega,fun _ hw=>⟨.inl rfl,hw,?_,fun h=>absurd (show (1:Int)=2 from h) (by decide),fun h=>by show (if _ then _ else _)=0; rw [if_neg (by rw [show (a.is && b.is)=false from h]; decide)]⟩,fun h=>absurd rfl h⟩
    show (if _ then a.val - b.val else 0) < 2 ^ a.w
    have h3:=ha.val
    split
    ·show a.val - b.val < 2 ^ a.w; omega
    ·show 0 < 2 ^ a.w; omega
   ·split at h
    ·cases h
     refine ⟨by show a.w + b.w ≤ 1000; omega,fun _ hw=>⟨.inl rfl,hw,?_,fun h=>absurd (show (1:Int)=2 from h) (by decide),fun h=>by show (if _ then _ else _)=0; rw [if_neg (by rw [show (a.is && b.is)=false from h]; decide)]⟩,fun h=>absurd rfl h⟩
     show (if _ then a.val * b.val else 0) < 2 ^ (a.w + b.w)
     rw [Nat.pow_add]
     split
     ·exact Nat.mul_lt_mul'' ha.val hb.val
     ·exact Nat.mul_pos (Nat.two_pow_pos _) (Nat.two_pow_pos _)
    ·cases h
     exact Zf7 Zqd
theorem Zq3 {p:Prg} {σ:TE} {s:ByteArray} {r:Kn} (hp:PV p) (ok:EOkT p σ) (h:Zjo p σ s=.ok r):KOk r:=by
 unfold Zjo at h
 split at h
 ·rename_i n hn
  cases h
  exact Zqc (ok.loops s n (Zbr hn))
 ·split at h
  ·rename_i k w hv
   cases h
   obtain ⟨a,b,c⟩:=ok.vars s k w hv
   exact ⟨a,b,Nat.two_pow_pos _,fun h=>⟨c h,rfl⟩,fun _=>rfl⟩
  ·split at h
   ·rename_i d hd
    split at h
    ·cases h
     have:=hp.ins d (Zeq hd).1
     exact Zqb (by omega)
    ·cases h
   ·cases h
theorem Zns {p:Prg} {σ:TE} {s:ByteArray} {k r:Kn} (hp:PV p) (ok:EOkT p σ) (h:Ze9 p σ s k=.ok r):KOk r:=by
 unfold Ze9 at h
 split at h
 ·rename_i i hi
  cases hpl:Zb0 k (p.arrays.getD i ⟨s,0⟩).size with
  | error e=>rw [hpl] at h; cases h
  | ok n =>
   rw [hpl] at h
   cases h
   obtain ⟨d,hd,_,_⟩:=Zc0 hi
   refine Zqb ?_
   have hl:i < σ.words.length:=by rw [ok.wlen]; exact (List.getElem?_eq_some_iff.1 hd).1
   have hw:=(ok.words i _ d (List.getElem?_eq_getElem hl) hd).2
   rw [List.getD_eq_getElem?_getD (l:=σ.words),List.getElem?_eq_getElem hl]
   show (σ.words[i]).getD n 0 ≤ 60
   rw [List.getD_eq_getElem?_getD]
   cases hg:(σ.words[i])[n]? with
   | none=>exact Nat.zero_le _
   | some w=>exact hw w (List.mem_of_getElem? hg)
 ·split at h
  ·rename_i d hd
   split at h
   ·cases h
   ·cases hpl:Zb0 k d.size with
    | error e=>rw [hpl] at h; cases h
    | ok n =>
     rw [hpl] at h
     cases h
     have:=hp.ins d (Zeq hd).1
     exact Zqb (by omega)
  ·cases h
theorem Zb6 {l:List Kn} (hl:∀ k ∈ l,KOk k) (i:Nat):KOk (nthK l i):=by
 unfold nthK
 rw [List.getD_eq_getElem?_getD]
 cases h:l[i]? with
 | none=>exact Zqd
 | some k=>exact hl k (List.mem_of_getElem? h)
theorem Zq4 {p:Prg} {σ:TE} {k o:Int} {n:Nat} {s:ByteArray} {l:List Kn} {r:Kn} (hp:PV p) (ok:EOkT p σ) (hn:n ≤ 1152921504606846975) (hl:∀ k ∈ l,KOk k) (h:Zjq p σ k o n s l=.ok r):KMade r:=by
 unfold Zjq at h
 split at h
 ·cases h; exact Zf7 (Zqc (by omega))
 ·split at h
  ·exact Zf7 (Zq3 hp ok h)
  ·split at h
   ·exact Zf7 (Zns hp ok h)
   ·split at h
    ·exact opK_ok (Zb6 hl 0) (Zb6 hl 1) h
    ·split at h
     ·split at h
      ·cases h
      ·cases h; exact Zf7 Zqd
     ·split at h
      ·cases h
      ·rename_i hk
       cases h
       have h1:=Zb6 hl 1
       have h2:=Zb6 hl 2
       have hk2:(nthK l 2).kind=(nthK l 1).kind:=Decidable.byContradiction fun hh=>hk (.inr hh)
       refine Zf7 ⟨h1.kind,?_,Nat.two_pow_pos _,fun hb=>⟨?_,rfl⟩,fun _=>rfl⟩
       ·show max _ _ ≤ 60
        have:=h1.w; have:=h2.w; omega
       ·have e1:=(h1.boo hb).1
        have e2:=(h2.boo (hk2.trans hb)).1
        show max _ _=0
        omega
theorem Zfe {p:Prg} {σ:TE}:∀ {l:List Exp},(∀ x ∈ l,∀ r m,Zdy p σ x=.ok (r,m)→KOk r∧m ≤ 60)→∀ ks m,Za9 p σ l=.ok (ks,m)→(∀ k ∈ ks,KOk k)∧m ≤ 60∧ks.length=l.length
 | [],_,ks,m,h=>by rw [Za9] at h; cases h; exact ⟨by simp,by decide,rfl⟩
 | e :: es,ih,ks,m,h=>by
  rw [Za9] at h
  cases h1:Zdy p σ e with
  | error er=>rw [h1] at h; cases h
  | ok a =>
   obtain ⟨a,ma⟩:=a
   rw [h1,Zau] at h
   simp only at h
   cases h2:Za9 p σ es with
   | error er=>rw [h2] at h; cases h
   | ok b =>
    obtain ⟨b,mb⟩:=b
    rw [h2,Zau] at h
    cases h
    obtain ⟨p1,p2⟩:=ih e (by simp) a ma h1
    obtain ⟨q1,q2,q3⟩:=Zfe (fun x hx=>ih x (by simp [hx])) b mb h2
    exact ⟨fun k hk=>(List.mem_cons.1 hk).elim (fun h=>h ▸ p1) (q1 k),by omega,by simp [q3]⟩
theorem Zmq {p:Prg} {σ:TE} (hp:PV p) (ok:EOkT p σ) (e:Exp):∀ lv,VE e lv→∀ r m,Zdy p σ e=.ok (r,m)→KOk r∧m ≤ 60:=by
 induction e using Exp.ind with
 | h k o n s ks ih =>
  intro lv hv r m h
  obtain ⟨v1,v2,v3,v4,v5,v6,v7,v8,v9⟩:=VE_mk.1 hv
  rw [Zdy] at h
  cases h1:Za9 p σ ks with
  | error er=>rw [h1] at h; cases h
  | ok b =>
   obtain ⟨l,ml⟩:=b
   rw [h1,Zau] at h
   simp only at h
   obtain ⟨q1,q2,q3⟩:=Zfe (fun x hx=>ih x hx _ (v9 x hx)) l ml h1
   cases h2:Zjq p σ k o n s l with
   | error er=>rw [h2] at h; cases h
   | ok a =>
    rw [h2,Zau] at h
    have hm:=Zq4 hp ok v7 q1 h2
    obtain ⟨t1,t2,t3,_⟩:=Zx4 h
    simp only at t1 t3
    subst t1
    refine ⟨?_,t3 q2⟩
    by_cases c:r.kind=1
    ·exact hm.num c (t2 c)
    ·exact hm.other c
theorem Zff {p:Prg} {σ:TE} (hp:PV p) (ok:EOkT p σ) {l:List Exp} {lv:Nat} (hv:∀ x ∈ l,VE x lv):∀ ks m,Za9 p σ l=.ok (ks,m)→(∀ k ∈ ks,KOk k)∧m ≤ 60∧ks.length=l.length:=
 Zfe fun x hx=>Zmq hp ok x lv (hv x hx)
theorem Zet {p:Prg} {σ:TE}:∀ {a b:List Exp},Za9 p σ (a ++ b)=andT (Za9 p σ a) fun r=>andT (Za9 p σ b) fun r'=>.ok (r.1 ++ r'.1,max r.2 r'.2)
 | [],b=>by
  rw [List.nil_append,Za9,Zau]
  cases Za9 p σ b with
  | error e=>rfl
  | ok r=>simp
 | e :: es,b=>by
  rw [List.cons_append,Za9,Za9]
  cases Zdy p σ e with
  | error e=>rfl
  | ok a =>
   simp only [Zau]
   rw [Zet]
   cases Za9 p σ es with
   | error e=>rfl
   | ok r =>
    simp only [Zau]
    cases Za9 p σ b with
    | error e=>rfl
    | ok r'=>simp [Nat.max_assoc]
theorem Zti {p:Prg} {σ:TE} {e:Exp}:Za9 p σ [e]=andT (Zdy p σ e) fun r=>.ok ([r.1],r.2):=by
 rw [Za9]
 cases Zdy p σ e with
 | error e=>rfl
 | ok a=>simp [Za9]
theorem Zj1 {p:Prg} {σ:TE} {l:List Exp} {j:Nat} (hj:j < l.length) {acc:List Kn} {m:Nat} (h:Za9 p σ (l.take j)=.ok (acc,m)) :
  Za9 p σ (l.take (j + 1))=andT (Zdy p σ l[j]) fun r=>.ok (acc ++ [r.1],max m r.2):=by
 rw [List.take_add_one,List.getElem?_eq_getElem hj,Option.toList_some,Zet,h,Zau,Zti]
 cases Zdy p σ l[j] <;> rfl
theorem Zj2 {p:Prg} {σ:TE} {l:List Exp} {j:Nat} {e:Int} (h:Za9 p σ (l.take j)=.error e):Za9 p σ l=.error e:=by
 have:l=l.take j ++ l.drop j:=(List.take_append_drop j l).symm
 rw [this,Zet,h]; rfl
end Go.Ab
namespace Go.Ab
theorem Kn.v_outs {k:Kn}:k.v.outS=some k.v:=rfl
theorem Kn.v_out {k:Kn}:k.v.out=some k.v:=rfl
theorem Kn.v_clen {k:Kn}:k.v.cells.length=4:=rfl
theorem Kn.v_mkEl {k:Kn}:mkEl true k.v.cells=k.v:=rfl
theorem Zk8 {l:List Kn}:∀ e ∈ l.map Kn.v,e.cells.length=4:=by
 intro e he
 obtain ⟨x,_,rfl⟩:=List.mem_map.1 he
 rfl
theorem Zhd {σ:TS} {m:Nat}:({ σ with most:=m }:TS).env=σ.env:=rfl
theorem TOk.most' {p:Prg} {σ:TS} (h:TOk p σ) {m:Nat} (hm:m ≤ 60):TOk p { σ with most:=max σ.most m }:=⟨h.env,h.steps,by have:=h.most; show max σ.most m ≤ 60; omega⟩
theorem kids4 {k:Int} {n:Nat} (h:Zb3 k=n):n ≤ 3:=by
 unfold Zb3 at h
 repeat' split at h
 all_goals omega
theorem Zbg {l:List Kn} {i:Nat} (h:i < l.length):(l.map Kn.v)[i]?=some (nthK l i).v:=by
 rw [List.getElem?_map,nthK,List.getD_eq_getElem?_getD,List.getElem?_eq_getElem h]; rfl
theorem Zcv {α:Type} {r:TR α} {K K':α→Prop} {F F':Int→Prop} (h:Ans r K F) (h1:∀ a,K a→K' a) (h2:∀ e,F e→F' e):Ans r K' F':=by
 cases r with
 | ok a=>exact h1 _ h
 | error e=>exact h2 _ h
namespace YtihjhelbdbeokaaGreatDoor
section
variable {K:Out→H→Prop} {p:Prg} {L:Lk}
def SpE (p:Prg) (L:Lk) (e:Exp):Prop:=∀ (σ:TS) (h:H) (K:Out→H→Prop),At p L σ h→TOk p σ →
 Ans (Zdy p σ.env e) (fun r=>∀ h',At p L { σ with most:=max σ.most r.2 } h'→Fr L L h h'→K (.ret r.1.v) h') (fun er=>∀ h',Fr L L h h'→K (.pan (Zdb er)) h') →
 R 150 [.ptr L.x 0,e.v] h K
theorem Znw {l:List Exp} {lv:Nat} (hp:PV p) (hl:l.length ≤ 4) (ih:∀ x ∈ l,SpE p L x) (hv:∀ x ∈ l,VE x lv) {σ:TS} {h:H} (A:At p L σ h) (ok:TOk p σ)
  (hK:Ans (Za9 p σ.env l) (fun r=>∀ h',At p L { σ with most:=max σ.most r.2 } h'→Fr L L h h'→K (.ret (.vec (r.1.map Kn.v) .any)) h') (fun er=>∀ h',Fr L L h h'→K (.pan (Zdb er)) h')) :
  R 121 [.ptr L.x 0,.vec (l.map Exp.v) .any] h K:=by
 refine run121 (Nat.le_of_ble_eq_true rfl) ?_
 simp -dsimp -implicitDefEqProofs only [↓STP,STQ,seval,ir121,List.length_map]
 refine Zai (fun k s=>∃ j acc m h',j ≤ l.length∧k=l.length - j∧Za9 p σ.env (l.take j)=.ok (acc,m)∧acc.length=j∧m ≤ 60∧At p L { σ with most:=max σ.most m } h'∧Fr L L h h' ∧
  s=⟨upd (upd (upd (upd (upd ρ0 0 (.ptr L.x 0)) 5 (.vec (acc.map Kn.v) (.own 0))) 8 (.vec (l.map Exp.v) .any)) 9 (I l.length)) 10 (I j),m0,1,[],h'⟩) (i:=l.length) ⟨0,[],0,h,Nat.zero_le _,rfl,rfl,rfl,by decide,by rw [Nat.max_eq_left (Nat.zero_le _)]; exact A,Fr.refl _ _,by simp -dsimp -implicitDefEqProofs only [↓STP,STQ,seval] <;> rfl⟩ ?_ mono
 rintro k s ⟨j,acc,m,h',hj,rfl,hr,hac,hm,A',F',rfl⟩
 rcases Nat.lt_or_ge j l.length with hi | hi
 ·have hget:=Za5 (f:=Exp.v) hi
  have hx:=ih _ (List.getElem_mem hi)
  have hvx:=hv _ (List.getElem_mem hi)
  have w1:=wiM (show j < 9223372036854775807 by omega)
  have htk:=Zj1 hi hr
  have hok:=Zmq hp ok.env l[j] lv hvx
  generalize l[j]=x at *
  simp -dsimp -implicitDefEqProofs only [↓STP,STQ,seval,Int.ofNat_lt,hi,hget,storeE,Exp.v_outs,Exp.v_clen,Exp.v_tk,Exp.v_ag,Exp.v_out,eq_self]
  refine hx _ _ _ A' (ok.most' hm) ?_
  rw [Zhd]
  cases hex:Zdy p σ.env x with
  | error er =>
   rw [hex] at htk
   rw [Zj2 htk,Zbk] at hK
   rw [Zbk]
   intro h'' F''
   simp -dsimp -implicitDefEqProofs only [↓STP,STQ,seval]
   exact hK _ (F'.trans F'')
  | ok r =>
   obtain ⟨a,ma⟩:=r
   rw [hex] at htk
   rw [Zc1]
   intro h'' A'' F''
   obtain ⟨ka,hma⟩:=hok a ma hex
   simp -dsimp -implicitDefEqProofs only [↓STP,STQ,seval,Zab]
   rw [Zcu (sz:=4) (by simp) Zk8 rfl (by decide) (by decide) (by rw [List.length_map]; omega)]
   simp -dsimp -implicitDefEqProofs only [↓STP,STQ,seval,w1,mkEl,V.cells]
   refine ⟨l.length - (j + 1),by omega,j + 1,acc ++ [a],max m ma,h'',hi,rfl,htk,by simp [hac],by omega,?_,F'.trans F'',?_⟩
   ·have e:({ σ with most:=max σ.most (max m ma) }:TS)={ ({ σ with most:=max σ.most m }:TS) with most:=max (max σ.most m) ma }:=by rw [Nat.max_assoc]
    rw [e]; exact A''
   ·rw [List.map_append]; rfl
 ·have hj':j=l.length:=by omega
  subst hj'
  rw [List.take_length] at hr
  rw [hr,Zc1] at hK
  simp -dsimp -implicitDefEqProofs only [↓STP,STQ,seval,Int.lt_irrefl]
  exact hK _ A' F'
theorem Ze7 {m:Nat} {σ:TS} {h0 h:H} {K:Out→H→Prop} {r:Kn} (A:At p L { σ with most:=max σ.most m } h) (F:Fr L L h0 h) (hm:max σ.most m ≤ 60) (hw:r.w ≤ 1000)
  (hK:Ans (Zf8 m r) (fun r=>∀ h',At p L { σ with most:=max σ.most r.2 } h'→Fr L L h0 h'→K (.ret r.1.v) h') (fun er=>∀ h',Fr L L h0 h'→K (.pan (Zdb er)) h')) :
  R 179 [.ptr L.x 0,r.v] h K:=by
 refine toldG A hw hm ?_
 show Ans (Zf8 (max σ.most m) r) _ _
 rw [Zuf]
 cases ht:Zf8 m r with
 | error e =>
  rw [ht] at hK
  exact hK _ F
 | ok q =>
  rw [ht] at hK
  intro h' A' F'
  exact hK _ A' (F.trans F')
theorem exprG (hp:PV p) (e:Exp):∀ lv,VE e lv→EOk e→SpE p L e:=by
 induction e using Exp.ind with
 | h k o n s ks ih =>
  intro lv hv ok σ h K A okt hK
  obtain ⟨v1,v2,v3,v4,v5,v6,v7,v8,v9⟩:=VE_mk.1 hv
  obtain ⟨hk,ho,hn,hs,hl,hks⟩:=Zlt ok
  have hl3:=kids4 v2
  refine run150 (Nat.le_of_ble_eq_true rfl) ?_
  simp -dsimp -implicitDefEqProofs only [↓STP,STQ,seval,Exp.v_mk,ir150]
  rw [Zdy] at hK
  refine Znw hp (by omega) (fun x hx=>ih x hx _ (v9 x hx) (hks x hx)) v9 A okt ?_
  cases h1:Za9 p σ.env ks with
  | error er =>
   rw [h1] at hK
   intro h' F'
   simp -dsimp -implicitDefEqProofs only [↓STP,STQ,seval]
   exact hK _ F'
  | ok lm =>
   obtain ⟨l,m⟩:=lm
   rw [h1,Zau] at hK
   simp only at hK
   intro h' A' F'
   obtain ⟨hkl,hm,hll⟩:=Zff hp okt.env v9 l m h1
   have hmm:max σ.most m ≤ 60:=(okt.most' hm).most
   have hn':n < 1152921504606846976:=by omega
   have okn:=fun i=>Zb6 hkl i
   have hkk:k=1∨k=2∨k=3∨k=4∨k=5∨k=6:=by
    unfold Zb3 at v2
    repeat' split at v2
    all_goals omega
   unfold Zjq at hK
   rcases hkk with rfl | rfl | rfl | rfl | rfl | rfl
   ·rw [if_pos rfl,Zau] at hK
    simp -dsimp -implicitDefEqProofs only [↓STP,STQ,seval]
    refine Zn9 (by omega) ?_
    simp -dsimp -implicitDefEqProofs only [↓STP,STQ,seval,Zab]
    refine Ze7 (r:=kcon n) A' F' hmm (by have:=(Zqc hn').w; omega) ?_
    refine Zcv hK (fun q hq h'' A'' F''=>?_) (fun er hq h'' F''=>?_)
    ·simp -dsimp -implicitDefEqProofs only [↓STP,STQ,seval,Zab,Zad]
     exact hq _ A'' F''
    ·simp -dsimp -implicitDefEqProofs only [↓STP,STQ,seval]
     exact hq _ F''
   ·rw [if_neg (by decide),if_pos rfl] at hK
    simp -dsimp -implicitDefEqProofs only [↓STP,STQ,seval]
    refine nameG hp A' ?_
    rw [Zhd]
    cases h2:Zjo p σ.env s with
    | error er =>
     rw [h2] at hK
     rw [Zbk]
     simp -dsimp -implicitDefEqProofs only [↓STP,STQ,seval]
     exact hK _ F'
    | ok r =>
     rw [h2,Zau] at hK
     rw [Zc1]
     simp -dsimp -implicitDefEqProofs only [↓STP,STQ,seval,Zab]
     refine Ze7 (r:=r) A' F' hmm (by have:=(Zq3 hp okt.env h2).w; omega) ?_
     refine Zcv hK (fun q hq h'' A'' F''=>?_) (fun er hq h'' F''=>?_)
     ·simp -dsimp -implicitDefEqProofs only [↓STP,STQ,seval,Zab,Zad]
      exact hq _ A'' F''
     ·simp -dsimp -implicitDefEqProofs only [↓STP,STQ,seval]
      exact hq _ F''
   ·rw [if_neg (by decide),if_neg (by decide),if_pos rfl] at hK
    have hl1:l.length=1:=by rw [hll]; have:Zb3 3=1:=rfl; omega
    have g0:=Zbg (l:=l) (i:=0) (by omega)
    simp -dsimp -implicitDefEqProofs only [↓STP,STQ,seval,g0,Kn.v_clen,Kn.v_mkEl]
    refine indexG hp A' okt.env (okn 0) ?_
    rw [Zhd]
    cases h2:Ze9 p σ.env s (nthK l 0) with
    | error er =>
     rw [h2] at hK
     rw [Zbk]
     simp -dsimp -implicitDefEqProofs only [↓STP,STQ,seval]
     exact hK _ F'
    | ok r =>
     rw [h2,Zau] at hK
     rw [Zc1]
     simp -dsimp -implicitDefEqProofs only [↓STP,STQ,seval,Zab]
     refine Ze7 (r:=r) A' F' hmm (by have:=(Zns hp okt.env h2).w; omega) ?_
     refine Zcv hK (fun q hq h'' A'' F''=>?_) (fun er hq h'' F''=>?_)
     ·simp -dsimp -implicitDefEqProofs only [↓STP,STQ,seval,Zab,Zad]
      exact hq _ A'' F''
     ·simp -dsimp -implicitDefEqProofs only [↓STP,STQ,seval]
      exact hq _ F''
   ·rw [if_neg (by decide),if_neg (by decide),if_neg (by decide),if_pos rfl] at hK
    have hl1:l.length=2:=by rw [hll]; have:Zb3 4=2:=rfl; omega
    have g0:=Zbg (l:=l) (i:=0) (by omega)
    have g1:=Zbg (l:=l) (i:=1) (by omega)
    obtain ⟨o1,o2⟩:=v5 rfl
    simp -dsimp -implicitDefEqProofs only [↓STP,STQ,seval,g0,g1,Kn.v_clen,Kn.v_mkEl]
    refine opG o1 o2 (okn 0) (okn 1) ?_
    cases h2:opK o (nthK l 0) (nthK l 1) with
    | error er =>
     rw [h2] at hK
     rw [Zbk]
     simp -dsimp -implicitDefEqProofs only [↓STP,STQ,seval]
     exact hK _ F'
    | ok r =>
     rw [h2,Zau] at hK
     rw [Zc1]
     intro v hv
     have hmd:=opK_ok (okn 0) (okn 1) h2
     simp -dsimp -implicitDefEqProofs only [↓STP,STQ,seval,Zab]
     refine Ze7 (r:={ r with val:=v }) A' F' hmm hmd.w ?_
     have hsame:Zf8 m ({ r with val:=v }:Kn)=Zf8 m r:=by
      by_cases hc:r.kind=1∧60 < r.w
      ·unfold Zf8
       show (if r.kind=1 then (if 60 < r.w then _ else _) else _)=(if r.kind=1 then (if 60 < r.w then _ else _) else _)
       rw [if_pos hc.1,if_pos hc.1,if_pos hc.2,if_pos hc.2]
      ·have hle:r.w ≤ 60:=by
        rcases (show r.kind=1∨r.kind ≠ 1 from Decidable.em _) with hq | hq
        ·exact Nat.le_of_not_lt fun hw=>hc ⟨hq,hw⟩
        ·exact (hmd.other hq).w
       rw [hv hle]
     rw [hsame]
     refine Zcv hK (fun q hq h'' A'' F''=>?_) (fun er hq h'' F''=>?_)
     ·simp -dsimp -implicitDefEqProofs only [↓STP,STQ,seval,Zab,Zad]
      exact hq _ A'' F''
     ·simp -dsimp -implicitDefEqProofs only [↓STP,STQ,seval]
      exact hq _ F''
   ·rw [if_neg (by decide),if_neg (by decide),if_neg (by decide),if_neg (by decide),if_pos rfl] at hK
    have hl1:l.length=1:=by rw [hll]; have:Zb3 5=1:=rfl; omega
    have g0:=Zbg (l:=l) (i:=0) (by omega)
    simp -dsimp -implicitDefEqProofs only [↓STP,STQ,seval,g0,Kn.v_clen,Kn.v_mkEl]
    refine Zen (fun c=>?_) (fun c=>?_)
    ·rw [if_neg (by simp [c]),Zau] at hK
     simp -dsimp -implicitDefEqProofs only [↓STP,STQ,seval,Zad]
     exact hK _ A' F'
    ·rw [if_pos c] at hK
     simp -dsimp -implicitDefEqProofs only [↓STP,STQ,seval]
     exact hK _ F'
   ·rw [if_neg (by decide),if_neg (by decide),if_neg (by decide),if_neg (by decide),if_neg (by decide)] at hK
    have hl1:l.length=3:=by rw [hll]; have:Zb3 6=3:=rfl; omega
    have g0:=Zbg (l:=l) (i:=0) (by omega)
    have g1:=Zbg (l:=l) (i:=1) (by omega)
    have g2:=Zbg (l:=l) (i:=2) (by omega)
    simp -dsimp -implicitDefEqProofs only [↓STP,STQ,seval,g0,Kn.v_clen,Kn.v_mkEl]
    refine Zen (fun c=>?_) (fun c=>?_)
    rotate_left
    ·rw [if_pos (.inl c)] at hK
     simp -dsimp -implicitDefEqProofs only [↓STP,STQ,seval]
     exact hK _ F'
    simp -dsimp -implicitDefEqProofs only [↓STP,STQ,seval,g1,g2,Kn.v_clen,Kn.v_mkEl,Zab]
    rw [show (V.agg [I (nthK l 2).kind,I (nthK l 2).w,.bool (nthK l 2).is,W (nthK l 2).val])=(nthK l 2).v from rfl]
    refine Zen (fun c2=>?_) (fun c2=>?_)
    rotate_left
    ·rw [if_pos (.inr c2)] at hK
     simp -dsimp -implicitDefEqProofs only [↓STP,STQ,seval]
     exact hK _ F'
    rw [if_neg (by simp [c,c2]),Zau] at hK
    have hmx:(if ((nthK l 2).w:Int) > ((nthK l 1).w:Int) then ((nthK l 2).w:Int) else ((nthK l 1).w:Int))=((max (nthK l 1).w (nthK l 2).w:Nat):Int):=by split <;> omega
    simp -dsimp -implicitDefEqProofs only [↓STP,STQ,seval,g1,g2,Kn.v_clen,Kn.v_mkEl,Zab,Za1,hmx]
    have hw1:=(okn 1).w
    have hw2:=(okn 2).w
    refine Ze7 (r:=⟨(nthK l 1).kind,max (nthK l 1).w (nthK l 2).w,false,0⟩) A' F' hmm (by show max _ _ ≤ 1000; omega) ?_
    refine Zcv hK (fun q hq h'' A'' F''=>?_) (fun er hq h'' F''=>?_)
    ·simp -dsimp -implicitDefEqProofs only [↓STP,STQ,seval,Zab,Zad]
     exact hq _ A'' F''
    ·simp -dsimp -implicitDefEqProofs only [↓STP,STQ,seval]
     exact hq _ F''
end
end YtihjhelbdbeokaaGreatDoor
end Go.Ab
namespace Go.Ab
theorem Zb5 {α β:Type} {r:TR α} {f:α→TR β} {b:β} (h:andT r f=.ok b):∃ a,r=.ok a∧f a=.ok b:=by
 cases r with
 | ok a=>exact ⟨a,rfl,h⟩
 | error e=>cases h
structure Keep (p:Prg) (σ σ':TS):Prop where
 ok:TOk p σ'
 loops:σ'.env.loops=σ.env.loops
 ifs:σ'.ifs=σ.ifs
 most:σ.most ≤ σ'.most
 steps:σ.steps ≤ σ'.steps
theorem Keep.trans {p:Prg} {σ σ' σ'':TS} (a:Keep p σ σ') (b:Keep p σ' σ''):Keep p σ σ'':=⟨b.ok,b.loops.trans a.loops,b.ifs.trans a.ifs,Nat.le_trans a.most b.most,Nat.le_trans a.steps b.steps⟩
def Zcj (p:Prg) (f:TS→TR TS):Prop:=∀ σ σ',TOk p σ→f σ=.ok σ'→Keep p σ σ'
theorem Zix {p:Prg} {σ σ':TS} (ok:TOk p σ) (h:Zhu σ=.ok σ'):σ'={ σ with steps:=σ.steps + 1 }∧Keep p σ σ':=by
 unfold Zhu at h
 split at h
 ·cases h
 ·cases h
  exact ⟨rfl,⟨ok.env,by show σ.steps + 1 ≤ 10000; omega,ok.most⟩,rfl,rfl,Nat.le_refl _,Nat.le_succ _⟩
theorem EOkT.setV {p:Prg} {σ:TE} (ok:EOkT p σ) {s:ByteArray} {v:Option (Int × Nat)} (hv:∀ k w,v=some (k,w)→(k=1∨k=2)∧w ≤ 60∧(k=2→w=0)):EOkT p { σ with vars:=Ab.setV σ.vars s v }:=by
 refine ⟨fun t k w h=>?_,ok.loops,ok.wlen,ok.words⟩
 simp only [Ab.setV] at h
 split at h
 ·exact hv k w h
 ·exact ok.vars t k w h
theorem setT_ok {p:Prg} {s:ByteArray} {l:List Kn} (hl:∀ k ∈ l,KOk k):Zcj p (setT p s l):=by
 intro σ σ' ok h
 unfold setT at h
 split at h
 ·cases h
 ·cases h
  have h0:=Zb6 hl 0
  exact ⟨⟨ok.env.setV fun k w h=>by cases h; exact ⟨h0.kind,h0.w,fun hb=>(h0.boo hb).1⟩,ok.steps,ok.most⟩,rfl,rfl,Nat.le_refl _,Nat.le_refl _⟩
theorem Zyf {l:List (List Nat)} {i n w:Nat}:(setW l i n w).length=l.length:=by simp [setW]
theorem Zqt {l:List (List Nat)} {i n w j:Nat}:(setW l i n w)[j]?=if j=i then (l[j]?).map (fun x=>x.set n w) else l[j]?:=by
 unfold setW
 rw [List.getElem?_set]
 by_cases h:i=j
 ·subst h
  rw [if_pos rfl,if_pos rfl,List.getD_eq_getElem?_getD]
  split
  ·rename_i hl; rw [List.getElem?_eq_getElem hl]; rfl
  ·rename_i hl; rw [List.getElem?_eq_none (by omega)]; rfl
 ·rw [if_neg h,if_neg (fun e=>h e.symm)]
theorem EOkT.setW {p:Prg} {σ:TE} (ok:EOkT p σ) {i n w:Nat} (hw:w ≤ 60):EOkT p { σ with words:=Ab.setW σ.words i n w }:=by
 refine ⟨ok.vars,ok.loops,by show (Ab.setW _ _ _ _).length=_; rw [Zyf]; exact ok.wlen,fun j l d h0 hd=>?_⟩
 have h:(Ab.setW σ.words i n w)[j]?=some l:=h0
 clear h0
 rw [Zqt] at h
 split at h
 ·rename_i e
  subst e
  rw [Option.map_eq_some_iff] at h
  obtain ⟨l0,h1,rfl⟩:=h
  obtain ⟨a,b⟩:=ok.words j l0 d h1 hd
  refine ⟨by rw [List.length_set]; exact a,fun x hx=>?_⟩
  rcases List.mem_or_eq_of_mem_set hx with h | h
  ·exact b x h
  ·omega
 ·exact ok.words j l d h hd
theorem Zum {p:Prg} {s:ByteArray} {l:List Kn} (hl:∀ k ∈ l,KOk k):Zcj p (Zkt p s l):=by
 intro σ σ' ok h
 unfold Zkt at h
 split at h
 ·cases h
 ·obtain ⟨n,_,h⟩:=Zb5 h
  split at h
  ·cases h
  ·cases h
   exact ⟨⟨ok.env.setW (Zb6 hl 1).w,ok.steps,ok.most⟩,rfl,rfl,Nat.le_refl _,Nat.le_refl _⟩
theorem maxW_get {a b:List (List Nat)} {i:Nat} {l:List Nat} (h:(maxW a b)[i]?=some l):∃ x y,a[i]?=some x∧b[i]?=some y∧l=List.zipWith max x y:=by
 unfold maxW at h
 rw [List.getElem?_zipWith] at h
 split at h
 ·rename_i x y hx hy
  cases h
  exact ⟨x,y,hx,hy,rfl⟩
 ·cases h
theorem zip_le {a b:List Nat} (ha:∀ x ∈ a,x ≤ 60) (hb:∀ x ∈ b,x ≤ 60):∀ x ∈ List.zipWith max a b,x ≤ 60:=by
 intro x hx
 obtain ⟨i,hi⟩:=List.mem_iff_getElem?.1 hx
 rw [List.getElem?_zipWith] at hi
 split at hi
 ·rename_i u v hu hv
  cases hi
  have:=ha u (List.mem_of_getElem? hu)
  have:=hb v (List.mem_of_getElem? hv)
  omega
 ·cases hi
theorem ifT_ok {p:Prg} {l:List Kn} {fa fb:TS→TR TS} (ha:Zcj p fa) (hb:Zcj p fb):Zcj p (ifT l fa fb):=by
 intro σ σ' ok h
 unfold ifT at h
 split at h
 ·cases h
 ·obtain ⟨σ1,h1,h⟩:=Zb5 h
  obtain ⟨σ2,h2,h⟩:=Zb5 h
  cases h
  have k1:=ha { σ with ifs:=σ.ifs + 1 } _ ⟨ok.env,ok.steps,ok.most⟩ h1
  have k2:=hb { σ1 with env:=σ.env } _ ⟨ok.env,k1.ok.steps,k1.ok.most⟩ h2
  refine ⟨⟨⟨fun s k w hv=>?_,ok.env.loops,?_,fun i l d hl hd=>?_⟩,k2.ok.steps,k2.ok.most⟩,rfl,rfl,Nat.le_trans k1.most k2.most,Nat.le_trans k1.steps k2.steps⟩
  ·have hv:Zex σ.env.vars σ1.env.vars σ2.env.vars s=some (k,w):=hv
   unfold Zex at hv
   split at hv
   ·unfold Zm2 at hv
    split at hv
    ·rename_i k1' w1 k2' w2 e1 e2
     split at hv
     ·rename_i hk
      cases hv
      have a1:=k1.ok.env.vars s _ _ e1
      have a2:=k2.ok.env.vars s _ _ e2
      refine ⟨a1.1,by show max w1 w2 ≤ 60; omega,fun hh=>?_⟩
      have b1:=a1.2.2 hh
      have b2:=a2.2.2 (hk ▸ hh)
      show max w1 w2=0
      omega
     ·cases hv
    ·cases hv
   ·cases hv
  ·show (maxW σ2.env.words σ1.env.words).length=_
   unfold maxW
   rw [List.length_zipWith,k1.ok.env.wlen,k2.ok.env.wlen,Nat.min_self]
  ·obtain ⟨x,y,hx,hy,rfl⟩:=maxW_get hl
   obtain ⟨a1,a2⟩:=k2.ok.env.words i x d hx hd
   obtain ⟨b1,b2⟩:=k1.ok.env.words i y d hy hd
   refine ⟨?_,zip_le a2 b2⟩
   rw [List.length_zipWith]
   omega
theorem Zx2 {p:Prg} {s:ByteArray} {fa:TS→TR TS} (ha:Zcj p fa) {n:Nat} (hn:n < 1152921504606846976):Zcj p (Zoy s fa n):=by
 intro σ σ' ok h
 unfold Zoy at h
 obtain ⟨τ,h1,h⟩:=Zb5 h
 obtain ⟨τ',h2,h⟩:=Zb5 h
 cases h
 obtain ⟨rfl,k1⟩:=Zix ok h1
 have k2:=ha { σ with steps:=σ.steps + 1,env:={ σ.env with loops:=σ.env.loops ++ [(s,n)] } } _ ⟨⟨k1.ok.env.vars,fun t m hm=>by
  have hm:(t,m) ∈ σ.env.loops ++ [(s,n)]:=hm
  rcases List.mem_append.1 hm with hm | hm
  ·exact k1.ok.env.loops t m hm
  ·rw [List.mem_singleton] at hm; cases hm; exact hn,k1.ok.env.wlen,k1.ok.env.words⟩,k1.ok.steps,k1.ok.most⟩ h2
 exact ⟨⟨⟨k2.ok.env.vars,ok.env.loops,k2.ok.env.wlen,k2.ok.env.words⟩,k2.ok.steps,k2.ok.most⟩,rfl,k2.ifs,k2.most,Nat.le_trans k1.steps k2.steps⟩
theorem Keep.refl {p:Prg} {σ:TS} (ok:TOk p σ):Keep p σ σ:=⟨ok,rfl,rfl,Nat.le_refl _,Nat.le_refl _⟩
theorem Zq7 {p:Prg} {f:Nat→TS→TR TS} {m:Nat} (hf:∀ n,n < m→Zcj p (f n)):∀ c n,n + c ≤ m→Zcj p (Zgu f c n)
 | 0,n,_=>fun σ σ' ok h=>by rw [Zgu] at h; cases h; exact Keep.refl ok
 | c + 1,n,hm=>fun σ σ' ok h=>by
  rw [Zgu] at h
  obtain ⟨τ,h1,h⟩:=Zb5 h
  have k1:=hf n (by omega) _ _ ok h1
  exact k1.trans (Zq7 hf c (n + 1) (by omega) _ _ k1.ok h)
theorem forT_ok {p:Prg} {s:ByteArray} {l:List Kn} (hl:∀ k ∈ l,KOk k) {fa:TS→TR TS} (ha:Zcj p fa):Zcj p (forT p s l fa):=by
 intro σ σ' ok h
 unfold forT at h
 split at h
 ·cases h
 ·split at h
  ·cases h
  ·have h1:=(Zb6 hl 1).lt
   have h0:=(Zb6 hl 0).lt
   have k0:Keep p σ { σ with env:={ σ.env with vars:=setV σ.env.vars s none } }:=⟨⟨ok.env.setV (fun k w h=>by cases h),ok.steps,ok.most⟩,rfl,rfl,Nat.le_refl _,Nat.le_refl _⟩
   by_cases hle:(nthK l 0).val ≤ (nthK l 1).val
   ·exact k0.trans (Zq7 (m:=(nthK l 1).val + 1) (fun n hn=>Zx2 ha (by omega)) _ _ (by omega) _ _ k0.ok h)
   ·rw [show (nthK l 1).val + 1 - (nthK l 0).val=0 by omega,Zgu] at h
    cases h
    exact k0
theorem Zyc {p:Prg} {k:Int} {s:ByteArray} {l:List Kn} (hl:∀ k ∈ l,KOk k) {fa fb:TS→TR TS} (ha:Zcj p fa) (hb:Zcj p fb):Zcj p (Zg4 p k s l fa fb):=by
 intro σ σ' ok h
 unfold Zg4 at h
 split at h
 ·exact setT_ok hl _ _ ok h
 ·split at h
  ·exact Zum hl _ _ ok h
  ·split at h
   ·exact ifT_ok ha hb _ _ ok h
   ·split at h
    ·exact forT_ok hl ha _ _ ok h
    ·split at h
     ·cases h
     ·cases h; exact Keep.refl ok
theorem Zdm {p:Prg}:∀ {l:List Stm},(∀ x ∈ l,Zcj p (Zg3 p x))→Zcj p (Zal p l)
 | [],_=>fun σ σ' ok h=>by rw [Zal] at h; cases h; exact Keep.refl ok
 | x :: xs,hl=>fun σ σ' ok h=>by
  rw [Zal] at h
  obtain ⟨τ,h1,h⟩:=Zb5 h
  have k1:=hl x (by simp) _ _ ok h1
  exact k1.trans (Zdm (fun y hy=>hl y (by simp [hy])) _ _ k1.ok h)
theorem Zyb {p:Prg} (hp:PV p) (x:Stm):∀ lv,VS x lv→Zcj p (Zg3 p x):=by
 induction x using Stm.ind with
 | h k s e a b iha ihb =>
  intro lv hv σ σ' ok h
  obtain ⟨v1,v2,v3,v4,v5,v6,v7,v8,v9,v10,v11⟩:=VS_mk.1 hv
  rw [Zg3] at h
  obtain ⟨τ,h1,h⟩:=Zb5 h
  obtain ⟨rfl,k1⟩:=Zix ok h1
  obtain ⟨⟨l,m⟩,h2,h⟩:=Zb5 h
  obtain ⟨hl,hm,_⟩:=Zff hp k1.ok.env v9 l m h2
  have k2:Keep p σ { σ with steps:=σ.steps + 1,most:=max σ.most m }:=⟨⟨ok.env,k1.ok.steps,by have:=ok.most; show max σ.most m ≤ 60; omega⟩,rfl,rfl,by show σ.most ≤ max σ.most m; omega,Nat.le_succ _⟩
  exact k2.trans (Zyc hl (Zdm fun y hy=>iha y hy _ (VSs_all.1 v10 y hy)) (Zdm fun y hy=>ihb y hy _ (VSs_all.1 v11 y hy)) _ _ k2.ok h)
theorem Zd3 {p:Prg} (hp:PV p) {l:List Stm} {lv:Nat} (hv:VSs l lv):Zcj p (Zal p l):=Zdm fun x hx=>Zyb hp x lv (VSs_all.1 hv x hx)
end Go.Ab
namespace Go.Ab
def setE {α:Type} (s:ByteArray) (v:α):List (ByteArray × α)→List (ByteArray × α)
 | []=>[(s,v)]
 | (a,u) :: es=>if a=s then (s,v) :: es else (a,u) :: setE s v es
def delE {α:Type} (s:ByteArray):List (ByteArray × α)→List (ByteArray × α)
 | []=>[]
 | (a,u) :: es=>if a=s then es else (a,u) :: delE s es
theorem Zh4 {α:Type} {s t:ByteArray} {v:α}:∀ {l:List (ByteArray × α)},Zaj t (setE s v l)=if t=s then some v else Zaj t l
 | []=>by
  simp only [setE,Zaj]
  by_cases h:s=t
  ·rw [if_pos h,if_pos h.symm]
  ·rw [if_neg h,if_neg (fun e=>h e.symm)]
 | (a,u) :: es=>by
  simp only [setE]
  by_cases h:a=s
  ·rw [if_pos h]
   simp only [Zaj]
   by_cases g:s=t
   ·rw [if_pos g,if_pos g.symm]
   ·rw [if_neg g,if_neg (fun e=>g e.symm),if_neg (fun e=>g (h.symm.trans e))]
  ·rw [if_neg h]
   simp only [Zaj]
   by_cases g:a=t
   ·rw [if_pos g,if_neg (fun e=>h (g.trans e)),if_pos g]
   ·rw [if_neg g,Zh4,if_neg g]
theorem keys_setE {α:Type} {s:ByteArray} {v:α}:∀ {l:List (ByteArray × α)},(s ∈ l.map (·.1)→(setE s v l).map (·.1)=l.map (·.1))∧(s ∉ l.map (·.1)→(setE s v l).map (·.1)=l.map (·.1) ++ [s])
 | []=>by simp [setE]
 | (a,u) :: es=>by
  simp only [setE]
  by_cases h:a=s
  ·subst h
   rw [if_pos rfl]; simp
  ·rw [if_neg h]
   simp only [List.map_cons,List.mem_cons,not_or]
   obtain ⟨i1,i2⟩:=keys_setE (s:=s) (v:=v) (l:=es)
   exact ⟨fun hh=>by rw [i1 (hh.resolve_left fun e=>h e.symm)],fun hh=>by rw [i2 hh.2]; rfl⟩
theorem Zk4 {α:Type} {s:ByteArray} {v:α} {l:List (ByteArray × α)} (h:(l.map (·.1)).Nodup):((setE s v l).map (·.1)).Nodup:=by
 by_cases hs:s ∈ l.map (·.1)
 ·rw [keys_setE.1 hs]; exact h
 ·rw [keys_setE.2 hs]
  exact List.nodup_append.2 ⟨h,by simp,fun a ha b hb e=>by rw [List.mem_singleton] at hb; subst hb; subst e; exact hs ha⟩
theorem findL_none {α:Type} {s:ByteArray}:∀ {l:List (ByteArray × α)},Zaj s l=none ↔ s ∉ l.map (·.1)
 | []=>by simp [Zaj]
 | (a,u) :: es=>by
  simp only [Zaj,List.map_cons,List.mem_cons,not_or]
  by_cases h:a=s
  ·rw [if_pos h]; exact ⟨fun e=>(by cases e),fun hh=>absurd h.symm hh.1⟩
  ·rw [if_neg h,findL_none]; exact ⟨fun hh=>⟨fun e=>h e.symm,hh⟩,fun hh=>hh.2⟩
theorem Zlf {α:Type} {s t:ByteArray}:∀ {l:List (ByteArray × α)},(l.map (·.1)).Nodup→Zaj t (delE s l)=if t=s then none else Zaj t l
 | [],_=>by simp [delE,Zaj]
 | (a,u) :: es,hn=>by
  have hn':=List.nodup_cons.1 (by simpa using hn:(a :: es.map (·.1)).Nodup)
  simp only [delE]
  by_cases h:a=s
  ·rw [if_pos h]
   simp only [Zaj]
   by_cases g:t=s
   ·rw [if_pos g]; subst g; subst h; exact findL_none.2 hn'.1
   ·rw [if_neg g,if_neg (fun e=>g (e.symm.trans h))]
  ·rw [if_neg h]
   simp only [Zaj]
   by_cases g:a=t
   ·rw [if_pos g,if_pos g,if_neg (fun e=>h (g.trans e))]
   ·rw [if_neg g,if_neg g,Zlf hn'.2]
theorem Zqo {α:Type} {s:ByteArray}:∀ {l:List (ByteArray × α)},((delE s l).map (·.1)).Sublist (l.map (·.1))
 | []=>.slnil
 | (a,u) :: es=>by
  simp only [delE]
  split
  ·exact .cons _ (List.Sublist.refl _)
  ·exact (Zqo).cons_cons _
theorem Zn7 {α:Type} {s:ByteArray}:∀ {l:List (ByteArray × α)},s ∉ l.map (·.1)→delE s l=l
 | [],_=>rfl
 | (a,u) :: es,h=>by
  simp only [List.map_cons,List.mem_cons,not_or] at h
  simp only [delE]
  rw [if_neg (fun e=>h.1 e.symm),Zn7 h.2]
theorem Zn8 {α:Type} {s:ByteArray} {v:α}:∀ {l:List (ByteArray × α)},s ∉ l.map (·.1)→delE s (l ++ [(s,v)])=l
 | [],_=>by simp [delE]
 | (a,u) :: es,h=>by
  simp only [List.map_cons,List.mem_cons,not_or] at h
  simp only [List.cons_append,delE]
  rw [if_neg (fun e=>h.1 e.symm),Zn8 h.2]
theorem Zfr {α:Type} {s:ByteArray} {v:α}:∀ {l:List (ByteArray × α)},s ∉ l.map (·.1)→setE s v l=l ++ [(s,v)]
 | [],_=>rfl
 | (a,u) :: es,h=>by
  simp only [List.map_cons,List.mem_cons,not_or] at h
  simp only [setE]
  rw [if_neg (fun e=>h.1 e.symm),Zfr h.2]; rfl
theorem Zjf {α:Type} {s:ByteArray} {u v:α}:∀ {l:List (ByteArray × α)},s ∉ l.map (·.1)→setE s v (l ++ [(s,u)])=l ++ [(s,v)]
 | [],_=>by simp [setE]
 | (a,w) :: es,h=>by
  simp only [List.map_cons,List.mem_cons,not_or] at h
  simp only [List.cons_append,setE]
  rw [if_neg (fun e=>h.1 e.symm),Zjf h.2]
theorem Zuy {α:Type} {s:ByteArray} {v:α}:∀ {l:List (ByteArray × α)} {i:Nat},setE s v l=match Zck s l i with
  | some (j,_)=>l.set (j - i) (s,v)
  | none=>l ++ [(s,v)]
 | [],i=>rfl
 | (a,u) :: es,i=>by
  simp only [setE,Zck]
  by_cases h:a=s
  ·rw [if_pos h,if_pos h]; simp
  ·rw [if_neg h,if_neg h,Zuy (i:=i + 1)]
   cases hf:Zck s es (i + 1) with
   | none=>rfl
   | some q =>
    obtain ⟨j,w⟩:=q
    have hj:i + 1 ≤ j:=by
     have:∀ {l:List (ByteArray × α)} {k:Nat},Zck s l k=some (j,w)→k ≤ j:=by
      intro l
      induction l with
      | nil=>intro k hk; cases hk
      | cons x xs ih =>
       intro k hk
       obtain ⟨a,b⟩:=x
       simp only [Zck] at hk
       split at hk
       ·cases hk; exact Nat.le_refl _
       ·have:=ih hk; omega
     exact this hf
    simp only
    rw [show j - i=(j - (i + 1)) + 1 by omega]; rfl
theorem Zwy {α:Type} {s:ByteArray}:∀ {l:List (ByteArray × α)} {i:Nat},delE s l=match Zck s l i with
  | some (j,_)=>l.eraseIdx (j - i)
  | none=>l
 | [],i=>rfl
 | (a,u) :: es,i=>by
  simp only [delE,Zck]
  by_cases h:a=s
  ·rw [if_pos h,if_pos h]; simp
  ·rw [if_neg h,if_neg h,Zwy (i:=i + 1)]
   cases hf:Zck s es (i + 1) with
   | none=>rfl
   | some q =>
    obtain ⟨j,w⟩:=q
    have hj:i + 1 ≤ j:=by
     have:∀ {l:List (ByteArray × α)} {k:Nat},Zck s l k=some (j,w)→k ≤ j:=by
      intro l
      induction l with
      | nil=>intro k hk; cases hk
      | cons x xs ih =>
       intro k hk
       obtain ⟨a,b⟩:=x
       simp only [Zck] at hk
       split at hk
       ·cases hk; exact Nat.le_refl _
       ·have:=ih hk; omega
     exact this hf
    simp only
    rw [show j - i=(j - (i + 1)) + 1 by omega]; rfl
theorem Zhl {α β:Type} {f:α→β}:∀ {l:List α} {i:Nat},(l.map f).eraseIdx i=(l.eraseIdx i).map f
 | [],_=>rfl
 | a :: l,0=>rfl
 | a :: l,i + 1=>by simp only [List.map_cons,List.eraseIdx_cons_succ,Zhl (l:=l)]
theorem Zii {α:Type} {f:α→V} {h:H} {id ver:Nat} {l:List (ByteArray × α)} {s:ByteArray} {v:α} (ho:h.objs id=some (.map (mapO f l) ver)) :
  ∃ ver',mupV h .s (.map id) (.str s) (f v)=some (h.set id (.map (mapO f (setE s v l)) ver')):=by
 simp only [mupV,Zb2 ho,Zd8]
 rw [Zuy (i:=0)]
 cases hf:Zck s l 0 with
 | none=>exact ⟨ver + 1,by simp [mapO]⟩
 | some q=>exact ⟨ver,by simp [mapO,List.map_set]⟩
theorem Zvp {α:Type} {f:α→V} {h:H} {id ver:Nat} {l:List (ByteArray × α)} {s:ByteArray} (ho:h.objs id=some (.map (mapO f l) ver)) :
  ∃ h',Zpd h .s (.map id) (.str s)=some h'∧h'.next=h.next∧(∀ j,j ≠ id→h'.objs j=h.objs j)∧∃ ver',h'.objs id=some (.map (mapO f (delE s l)) ver'):=by
 simp only [Zpd,Zb2 ho,Zd8]
 rw [Zwy (i:=0)]
 cases hf:Zck s l 0 with
 | none=>exact ⟨h,rfl,rfl,fun _ _=>rfl,ver,ho⟩
 | some q =>
  refine ⟨_,rfl,rfl,fun j hj=>by simp [Zac,hj],ver + 1,?_⟩
  simp only [Zac,if_pos,Option.map_some,mapO,Nat.sub_zero,Zhl]
end Go.Ab
namespace Go.Ab
structure Chg (h h':H) (id:Nat):Prop where
 next:h'.next=h.next
 same:∀ j,j ≠ id→h'.objs j=h.objs j
theorem Zm0 {h:H} {id:Nat} {o:O}:Chg h (h.set id o) id:=⟨rfl,fun j hj=>by rw [Zac,if_neg hj]⟩
theorem Lk.dist {L:Lk} (h:L.own.Nodup):(L.x ≠ L.i∧L.x ≠ L.s∧L.x ≠ L.v∧L.x ≠ L.w∧L.x ≠ L.l∧L.x ∉ L.ws.map fun r=>r.2.1) ∧
  (L.i ≠ L.s∧L.i ≠ L.v∧L.i ≠ L.w∧L.i ≠ L.l∧L.i ∉ L.ws.map fun r=>r.2.1)∧(L.s ≠ L.v∧L.s ≠ L.w∧L.s ≠ L.l∧L.s ∉ L.ws.map fun r=>r.2.1) ∧
  (L.v ≠ L.w∧L.v ≠ L.l∧L.v ∉ L.ws.map fun r=>r.2.1)∧(L.w ≠ L.l∧L.w ∉ L.ws.map fun r=>r.2.1)∧L.l ∉ (L.ws.map fun r=>r.2.1)∧(L.ws.map fun r=>r.2.1).Nodup:=by
 simpa only [Lk.own,List.cons_append,List.nil_append,List.nodup_cons,List.mem_cons,not_or,ne_eq,and_assoc] using h
theorem Chg.fr {L L':Lk} {h h':H} {id:Nat} (c:Chg h h' id) (hi:id ∈ L.own) (hx:L'.x=L.x) (ho:∀ j ∈ L'.own,j ∈ L.own):Fr L L' h h':=
 ⟨Nat.le_of_eq c.next.symm,hx,fun j _ hj=>c.same j (fun e=>hj (e ▸ hi)),fun j hj=>.inl (ho j hj)⟩
theorem Zv8 {L:Lk} {s:ByteArray} {id n:Nat} (h:Zaj s L.ws=some (id,n)):id ∈ L.ws.map fun r=>r.2.1:=List.mem_map.2 ⟨_,Zbr h,rfl⟩
theorem At.setVars {p:Prg} {L:Lk} {σ:TS} {h h':H} (A:At p L σ h) (c:Chg h h' L.v) {es':List (ByteArray × Int × Nat)} {vars':ByteArray→Option (Int × Nat)} (ho:∃ ver,h'.objs L.v=some (.map (mapO vkV es') ver))
  (hf:∀ s,Zaj s es'=vars' s) (hn:(es'.map (·.1)).Nodup):At p { L with es:=es' } { σ with env:={ σ.env with vars:=vars' } } h'∧Fr L { L with es:=es' } h h':=by
 obtain ⟨⟨xi,xs,xv,xw,xl,xn⟩,⟨is,iv,iw,il,in_⟩,⟨sv,sw,sl,sn⟩,⟨vw,vl,vn⟩,⟨wl,wn⟩,ln,wnd⟩:=Lk.dist A.nd
 refine ⟨⟨?_,?_,?_,ho,?_,?_,hf,hn,fun i d hd=>?_,A.wsn,A.wk,A.nd,fun id hi=>by rw [c.next]; exact A.lt id hi⟩,c.fr (by simp [Lk.own]) rfl (fun j hj=>hj)⟩
 ·show h'.objs L.x=_; rw [c.same _ xv]; exact A.x
 ·show ∃ ver,h'.objs L.i=_; rw [c.same _ iv]; exact A.i
 ·show ∃ ver,h'.objs L.s=_; rw [c.same _ sv]; exact A.s
 ·show ∃ ver,h'.objs L.w=_; rw [c.same _ vw.symm]; exact A.w
 ·show ∃ ver,h'.objs L.l=_; rw [c.same _ vl.symm]; exact A.l
 ·obtain ⟨id,ws,a,b,e⟩:=A.ws i d hd
  exact ⟨id,ws,a,b,by rw [c.same _ (fun q=>vn (q ▸ Zv8 b))]; exact e⟩
theorem At.setLoops {p:Prg} {L:Lk} {σ:TS} {h h':H} (A:At p L σ h) (c:Chg h h' L.l) {loops':List (ByteArray × Nat)} (ho:∃ ver,h'.objs L.l=some (.map (mapO conV loops') ver)) :
  At p L { σ with env:={ σ.env with loops:=loops' } } h'∧Fr L L h h':=by
 obtain ⟨⟨xi,xs,xv,xw,xl,xn⟩,⟨is,iv,iw,il,in_⟩,⟨sv,sw,sl,sn⟩,⟨vw,vl,vn⟩,⟨wl,wn⟩,ln,wnd⟩:=Lk.dist A.nd
 refine ⟨⟨?_,?_,?_,?_,?_,ho,A.es,A.esn,fun i d hd=>?_,A.wsn,A.wk,A.nd,fun id hi=>by rw [c.next]; exact A.lt id hi⟩,c.fr (by simp [Lk.own]) rfl (fun j hj=>hj)⟩
 ·show h'.objs L.x=_; rw [c.same _ xl]; exact A.x
 ·show ∃ ver,h'.objs L.i=_; rw [c.same _ il]; exact A.i
 ·show ∃ ver,h'.objs L.s=_; rw [c.same _ sl]; exact A.s
 ·show ∃ ver,h'.objs L.v=_; rw [c.same _ vl]; exact A.v
 ·show ∃ ver,h'.objs L.w=_; rw [c.same _ wl]; exact A.w
 ·obtain ⟨id,ws,a,b,e⟩:=A.ws i d hd
  exact ⟨id,ws,a,b,by rw [c.same _ (fun q=>ln (q ▸ Zv8 b))]; exact e⟩
theorem Zkd {p:Prg} (hp:PV p) {i:Nat} {d:ArD} (hd:p.arrays[i]?=some d):arOf p d.name=some i:=by
 unfold arOf
 have hn:=(List.nodup_append.1 hp.nm).2.1
 obtain ⟨hi,rfl⟩:=List.getElem?_eq_some_iff.1 hd
 refine List.findIdx?_eq_some_iff_getElem.2 ⟨hi,decide_eq_true rfl,fun j hj=>?_⟩
 intro e
 have e:=of_decide_eq_true e
 have:j=i:=Zgs hn (List.getElem?_eq_getElem (by omega)) (List.getElem?_eq_getElem hi) e
 omega
theorem At.setWord {p:Prg} {L:Lk} {σ:TS} {h:H} (hp:PV p) (A:At p L σ h) {s:ByteArray} {i n w id:Nat} {ws:List Nat} (hi:arOf p s=some i) (hws:σ.env.words[i]?=some ws) (hf:Zaj s L.ws=some (id,ws.length)) :
  At p L { σ with env:={ σ.env with words:=setW σ.env.words i n w } } (h.set id (.cells (Zar (ws.set n w))))∧Fr L L h (h.set id (.cells (Zar (ws.set n w)))):=by
 have c:Chg h (h.set id (.cells (Zar (ws.set n w)))) id:=Zm0
 have hm:=Zv8 hf
 obtain ⟨q1,q2,q3,q4,q5,q6,q7⟩:=A.ws_own hf
 refine ⟨⟨?_,?_,?_,?_,?_,?_,A.es,A.esn,fun j d hd=>?_,A.wsn,A.wk,A.nd,A.lt⟩,c.fr q1 rfl (fun j hj=>hj)⟩
 ·rw [c.same _ q2.symm]; exact A.x
 ·rw [c.same _ q3.symm]; exact A.i
 ·rw [c.same _ q4.symm]; exact A.s
 ·rw [c.same _ q5.symm]; exact A.v
 ·rw [c.same _ q6.symm]; exact A.w
 ·rw [c.same _ q7.symm]; exact A.l
 ·obtain ⟨id',ws',a,b,e⟩:=A.ws j d hd
  have hj:=Zkd hp hd
  show ∃ id ws_1,(setW σ.env.words i n w)[j]?=some ws_1∧_
  rw [Zqt]
  by_cases hji:j=i
  ·subst hji
   obtain ⟨d',hd',hn',_⟩:=Zc0 hi
   rw [hd] at hd'; cases hd'
   rw [hn'] at b
   rw [hws] at a; cases a
   rw [hf] at b
   obtain ⟨rfl,_⟩:id=id'∧ws.length=ws.length:=by simpa using b
   refine ⟨id,ws.set n w,by rw [if_pos rfl,hws]; rfl,by rw [hn',hf,List.length_set],by rw [Zac,if_pos rfl]⟩
  ·rw [if_neg hji]
   refine ⟨id',ws',a,b,?_⟩
   rw [c.same _ (fun q=>?_)]
   ·exact e
   ·subst q
    have hnd:=(Lk.dist A.nd).2.2.2.2.2.2
    have e1:=Zbr hf
    have e2:=Zbr b
    have:(s,id',ws.length)=(d.name,id',ws'.length):=by
     have inj:∀ {l:List (ByteArray × Nat × Nat)},(l.map fun r=>r.2.1).Nodup→∀ a ∈ l,∀ b ∈ l,a.2.1=b.2.1→a=b:=by
      intro l
      induction l with
      | nil=>intro _ a ha; cases ha
      | cons x xs ih =>
       intro hn a ha b hb hab
       have hn':=List.nodup_cons.1 (by simpa using hn:(x.2.1 :: xs.map fun r=>r.2.1).Nodup)
       rcases List.mem_cons.1 ha with rfl | ha1 <;> rcases List.mem_cons.1 hb with rfl | hb1
       ·rfl
       ·exact absurd (show a.2.1 ∈ xs.map fun r=>r.2.1 from List.mem_map.2 ⟨b,hb1,hab.symm⟩) hn'.1
       ·exact absurd (show b.2.1 ∈ xs.map fun r=>r.2.1 from List.mem_map.2 ⟨a,ha1,hab⟩) hn'.1
       ·exact ih hn'.2 a ha1 b hb1 hab
     exact inj hnd _ e1 _ e2 rfl
    have hs:s=d.name:=congrArg Prod.fst this
    rw [hs] at hi
    rw [hi] at hj
    exact hji (Option.some.inj hj).symm
end Go.Ab
namespace Go.Ab
section
variable {call:Zas} {d:Option Nat} {ρ:Nat→V} {m:Nat→Option (List V)} {n:Nat} {u:List Nat} {h:H} {next:S→Prop} {K:Ex→S→Prop}
theorem Zpa {x:Arg} {id ver:Nat} {es:List (V × V)} (hx:evA ρ x=.map id) (ho:h.mapAt id=some (es,ver)) :
  opT call d (.rng x) ⟨ρ,m,n,u,h⟩ next K ⟨⟩=next (S.put ⟨ρ,m,n,u,h.new (.iter id ver [])⟩ d (.itr h.next)):=by
 simp only [opT,op1,isRd,eff,hx,ho,Bool.false_eq_true,if_false]
 rfl
theorem Zpb {x:Arg} {i id ver:Nat} {seen:List Nat} {es:List (V × V)} (hx:evA ρ x=.itr i) (hi:h.objs i=some (.iter id ver seen)) (ho:h.mapAt id=some (es,ver)) :
  opT call d (.nxt x) ⟨ρ,m,n,u,h⟩ next K ⟨⟩=(((∀ j,j < es.length→j ∈ seen)→next (S.put ⟨ρ,m,n,u,h⟩ d (.tuple [.bool false]))) ∧
   (∀ j k v,es[j]?=some (k,v)→j ∉ seen→next (S.put ⟨ρ,m,n,u,h.set i (.iter id ver (j :: seen))⟩ d (.tuple [.bool true,k,v])))):=by
 simp only [opT,op1,isRd,eff,hx,hi,ho,Bool.false_eq_true,if_false,true_and]
 rfl
theorem Zpc {x:Arg} {i id ver j:Nat} {seen:List Nat} {es:List (V × V)} {k v:V} (hx:evA ρ x=.itr i) (hi:h.objs i=some (.iter id ver (j :: seen))) (ho:h.mapAt id=some (es,ver)) (hj:es[j]?=some (k,v)) :
  opT call d (.ent x) ⟨ρ,m,n,u,h⟩ next K ⟨⟩=next (S.put ⟨ρ,m,n,u,h⟩ d (.tuple [k,v])):=by
 simp only [opT,op1,isRd,eff,hx,hi,ho,hj,Bool.false_eq_true,if_false,true_and]
 rfl
end
theorem Zlh {n:Nat}:∀ {l:List Nat},l.Nodup→l.length ≤ (l.filter (fun x=>decide (x ≠ n))).length + 1
 | [],_=>by simp
 | a :: l,h=>by
  obtain ⟨h1,h2⟩:=List.nodup_cons.1 h
  by_cases c:a=n
  ·subst c
   rw [List.filter_cons,if_neg (by simp)]
   have:l.filter (fun x=>decide (x ≠ a))=l:=List.filter_eq_self.2 fun x hx=>by
    simp only [ne_eq,decide_eq_true_eq]
    exact fun e=>h1 (e ▸ hx)
   rw [this]; simp
  ·rw [List.filter_cons,if_pos (by simpa using c)]
   have:=Zlh (n:=n) h2
   simp only [List.length_cons]
   omega
theorem Ziz:∀ {n:Nat} {l:List Nat},l.Nodup→(∀ j ∈ l,j < n)→l.length ≤ n
 | 0,l,_,h=>by
  cases l with
  | nil=>exact Nat.le_refl _
  | cons a l=>exact absurd (h a (by simp)) (Nat.not_lt_zero _)
 | n + 1,l,hn,h=>by
  have h1:=Zlh (n:=n) hn
  have h2:=Ziz (n:=n) (l:=l.filter (fun x=>decide (x ≠ n))) (hn.filter _) (fun j hj=>by
   obtain ⟨a,b⟩:=List.mem_filter.1 hj
   have:=h j a
   have:j ≠ n:=by simpa using b
   omega)
  omega
theorem Zbu {α:Type} {s:ByteArray} {v:α}:∀ {l:List (ByteArray × α)},(l.map (·.1)).Nodup→(s,v) ∈ l→Zaj s l=some v
 | (a,u) :: es,hn,hm=>by
  have hn':=List.nodup_cons.1 (by simpa using hn:(a :: es.map (·.1)).Nodup)
  simp only [Zaj]
  rcases List.mem_cons.1 hm with h | h
  ·cases h; rw [if_pos rfl]
  ·rw [if_neg (fun e=>hn'.1 (by rw [e]; exact List.mem_map.2 ⟨_,h,rfl⟩)),Zbu hn'.2 h]
theorem Zmi {α:Type} {f:α→V} {l:List (ByteArray × α)} {j:Nat} {k v:V} (h:(mapO f l)[j]?=some (k,v)):∃ s a,l[j]?=some (s,a)∧k=.str s∧v=f a:=by
 unfold mapO at h
 rw [List.getElem?_map,Option.map_eq_some_iff] at h
 obtain ⟨⟨s,a⟩,h1,h2⟩:=h
 cases h2
 exact ⟨s,a,h1,rfl,rfl⟩
theorem Zmh {α:Type} {f:α→V} {l:List (ByteArray × α)}:(mapO f l).length=l.length:=by simp [mapO]
structure Copy (h:H) (ws:List (ByteArray × Nat × Nat)) (h':H) (acc:List (ByteArray × Nat × Nat)):Prop where
 all:∀ s id0 len,Zaj s ws=some (id0,len)→∃ id cs,Zaj s acc=some (id,len)∧h.objs id0=some (.cells cs)∧h'.objs id=some (.cells cs)
 keys:∀ r ∈ acc,r.1 ∈ ws.map (·.1)
 kn:(acc.map (·.1)).Nodup
 ids:∀ r ∈ acc,h.next < r.2.1∧r.2.1 < h'.next
 idn:(acc.map fun r=>r.2.1).Nodup
structure WsOk (h:H) (ws:List (ByteArray × Nat × Nat)):Prop where
 kn:(ws.map (·.1)).Nodup
 cells:∀ r ∈ ws,r.2.1 < h.next∧0 < r.2.2∧r.2.2 ≤ 64∧∃ cs,h.objs r.2.1=some (.cells cs)∧cs.length=r.2.2
theorem Zm4 {st:S} {s id0 len:Nat} {cs:List V} (hg:st.h.get id0=some cs) (hl:cs.length=len) (h0:0 < len) (hm:len ≤ 4294967296) :
  appV st s (.vec [] .full) (.ref id0 0 len 1) 1 8 false true=some (.ref st.h.next 0 len 1,st.withH (st.h.new (.cells cs))):=by
 simp only [appV,lenV,flat,hg,List.drop_zero,Nat.mul_one]
 rw [List.take_of_length_le (by omega),if_pos ⟨hl,by decide,by decide⟩,if_pos ⟨hm,h0⟩]
structure CopyI (h:H) (w ver:Nat) (ws:List (ByteArray × Nat × Nat)) (seen:List Nat) (acc:List (ByteArray × Nat × Nat)) (h':H):Prop where
 m:∃ va,h'.objs h.next=some (.map (mapO refV acc) va)
 i:h'.objs (h.next + 1)=some (.iter w ver seen)
 old:∀ j,j < h.next→h'.objs j=h.objs j
 nx:h.next + 2 ≤ h'.next
 sn:seen.Nodup
 sl:∀ j ∈ seen,j < ws.length
 keys:∀ s,s ∈ acc.map (·.1) ↔ ∃ j r,j ∈ seen∧ws[j]?=some (s,r)
 cells:∀ r ∈ acc,h.next + 2 ≤ r.2.1∧r.2.1 < h'.next∧∃ id0 cs,Zaj r.1 ws=some (id0,r.2.2)∧h.objs id0=some (.cells cs)∧h'.objs r.2.1=some (.cells cs)
 kn:(acc.map (·.1)).Nodup
 idn:(acc.map fun r=>r.2.1).Nodup
namespace YtihjhelbdbeokaaGreatDoor
section
variable {h:H} {K:Out→H→Prop}
theorem cloneG {id ver:Nat} {es:List (V × V)} (ho:h.objs id=some (.map es ver)) (hK:K (.ret (.map h.next)) (h.new (.map es 0))):R 176 [.map id] h K:=
 runs_ext ext2 (x:=Zim) rfl (n:=0) ⟨id,es,ver,rfl,Zb2 ho,hK⟩
theorem copiedG {w ver:Nat} {ws:List (ByteArray × Nat × Nat)} (hw:h.objs w=some (.map (mapO refV ws) ver)) (hwl:w < h.next) (ok:WsOk h ws)
  (hK:∀ h' acc,(∃ va,h'.objs h.next=some (.map (mapO refV acc) va))→h.next < h'.next→(∀ j,j < h.next→h'.objs j=h.objs j)→Copy h ws h' acc→K (.ret (.map h.next)) h') :
  R 177 [.map w] h K:=by
 refine run177 (Nat.le_of_ble_eq_true rfl) ?_
 have ho:(h.new (.map [] 0)).mapAt w=some (mapO refV ws,ver):=Zb2 (by rw [Zae,if_neg (by omega)]; exact hw)
 simp -dsimp -implicitDefEqProofs only [↓STP,STQ,seval,ir177]
 rw [Zpa (id:=w) (ver:=ver) (es:=mapO refV ws) rfl ho]
 simp -dsimp -implicitDefEqProofs only [↓STP,STQ,seval,Zah]
 refine Zai (fun k s=>∃ seen acc h',k=ws.length - seen.length∧CopyI h w ver ws seen acc h'∧s=⟨upd (upd ρ0 3 (.map h.next)) 8 (.itr (h.next + 1)),m0,0,[],h'⟩) (i:=ws.length)
  ⟨[],[],_,rfl,⟨⟨0,?_⟩,?_,fun j hj=>?_,?_,by simp,by simp,by simp,by simp,by simp,by simp⟩,by simp -dsimp -implicitDefEqProofs only [↓STP,STQ,seval] <;> rfl⟩ ?_ mono
 ·rw [Zae,if_neg (by rw [Zah]; omega),Zae,if_pos rfl]; rfl
 ·rw [Zae,Zah,if_pos rfl]
 ·rw [Zae,Zah,if_neg (by omega),Zae,if_neg (by omega)]
 ·rw [Zah,Zah]; exact Nat.le_refl _
 rintro k s ⟨seen,acc,h',rfl,I,rfl⟩
 have ho':h'.mapAt w=some (mapO refV ws,ver):=Zb2 (by rw [I.old w hwl]; exact hw)
 simp -dsimp -implicitDefEqProofs only [↓STP,STQ,seval]
 rw [Zpb (i:=h.next + 1) (id:=w) (ver:=ver) (seen:=seen) (es:=mapO refV ws) rfl I.i ho']
 refine ⟨fun hall=>?_,fun j kv vv hj hn=>?_⟩
 ·simp -dsimp -implicitDefEqProofs only [↓STP,STQ,seval]
  refine hK h' acc I.m (by have:=I.nx; omega) I.old ⟨fun s id0 len hf=>?_,fun r hr=>?_,I.kn,fun r hr=>?_,I.idn⟩
  ·have hm:=Zbr hf
   obtain ⟨j,hj⟩:=List.mem_iff_getElem?.1 hm
   have hjl:j < ws.length:=(List.getElem?_eq_some_iff.1 hj).1
   have hs:s ∈ acc.map (·.1):=(I.keys s).2 ⟨j,(id0,len),hall j (by rw [Zmh]; exact hjl),hj⟩
   obtain ⟨⟨s',id,len'⟩,hr,rfl⟩:=List.mem_map.1 hs
   obtain ⟨_,_,id0',cs,e1,e2,e3⟩:=I.cells _ hr
   rw [hf] at e1
   simp only [Option.some.injEq,Prod.mk.injEq] at e1
   obtain ⟨rfl,rfl⟩:=e1
   exact ⟨id,cs,Zbu I.kn hr,e2,e3⟩
  ·obtain ⟨_,_,id0,cs,e1,_⟩:=I.cells r hr
   exact List.mem_map.2 ⟨_,Zbr e1,rfl⟩
  ·obtain ⟨a,b,_⟩:=I.cells r hr
   exact ⟨by omega,b⟩
 ·obtain ⟨s,⟨id0,len⟩,hjw,rfl,rfl⟩:=Zmi hj
  have hm:(s,id0,len) ∈ ws:=List.mem_of_getElem? hjw
  have hjl:j < ws.length:=(List.getElem?_eq_some_iff.1 hjw).1
  obtain ⟨c1,c2,c3,cs,c4,c5⟩:=ok.cells _ hm
  simp only at c1 c2 c3 c4 c5
  have i1:(h'.set (h.next + 1) (.iter w ver (j :: seen))).objs (h.next + 1)=some (.iter w ver (j :: seen)):=by rw [Zac,if_pos rfl]
  have i2:(h'.set (h.next + 1) (.iter w ver (j :: seen))).mapAt w=some (mapO refV ws,ver):=Zb2 (by rw [Zac,if_neg (by omega),I.old w hwl]; exact hw)
  have hs:s ∉ acc.map (·.1):=fun hs=>by
   obtain ⟨j',r,hj',hw'⟩:=(I.keys s).1 hs
   have:j'=j:=Zgs ok.kn hw' hjw rfl
   exact hn (this ▸ hj')
  simp -dsimp -implicitDefEqProofs only [↓STP,STQ,seval]
  rw [Zpc (i:=h.next + 1) (id:=w) (ver:=ver) (seen:=seen) (es:=mapO refV ws) (j:=j) rfl i1 i2 hj]
  have hg:(h'.set (h.next + 1) (.iter w ver (j :: seen))).get id0=some cs:=Zam (by rw [Zac,if_neg (by omega),I.old id0 c1]; exact c4)
  simp -dsimp -implicitDefEqProofs only [↓STP,STQ,seval,refV]
  rw [Zm4 hg c5 c2 (by omega)]
  obtain ⟨va,hva⟩:=I.m
  have hnx:=I.nx
  have hm2:((h'.set (h.next + 1) (.iter w ver (j :: seen))).new (.cells cs)).objs h.next=some (.map (mapO refV acc) va):=by
   rw [Zae,if_neg (by rw [Zbd]; omega),Zac,if_neg (by omega)]; exact hva
  obtain ⟨ver',hup⟩:=Zii (f:=refV) (s:=s) (v:=(h'.next,len)) hm2
  rw [show refV (h'.next,len)=V.ref h'.next 0 len 1 from rfl] at hup
  simp -dsimp -implicitDefEqProofs only [↓STP,STQ,seval,Zbd,hup]
  refine ⟨ws.length - (j :: seen).length,?_,j :: seen,acc ++ [(s,h'.next,len)],_,rfl,⟨⟨ver',?_⟩,?_,fun i hi=>?_,?_,?_,?_,fun t=>?_,fun r hr=>?_,?_,?_⟩,rfl⟩
  ·have:=Ziz (n:=ws.length) (l:=j :: seen) (List.nodup_cons.2 ⟨hn,I.sn⟩) (fun i hi=>(List.mem_cons.1 hi).elim (fun e=>e ▸ hjl) (I.sl i))
   simp only [List.length_cons] at this ⊢
   omega
  ·rw [Zac,if_pos rfl,Zfr hs]
  ·rw [Zac,if_neg (by omega),Zae,if_neg (by rw [Zbd]; omega),Zac,if_pos rfl]
  ·rw [Zac,if_neg (by omega),Zae,if_neg (by rw [Zbd]; omega),Zac,if_neg (by omega)]
   exact I.old i hi
  ·rw [Zbd,Zah,Zbd]; omega
  ·exact List.nodup_cons.2 ⟨hn,I.sn⟩
  ·exact fun i hi=>(List.mem_cons.1 hi).elim (fun e=>e ▸ hjl) (I.sl i)
  ·rw [List.map_append,List.mem_append,I.keys t]
   constructor
   ·rintro (⟨i,r,a,b⟩ | ht)
    ·exact ⟨i,r,List.mem_cons_of_mem _ a,b⟩
    ·have:t=s:=by simpa using ht
     subst this
     exact ⟨j,_,List.mem_cons_self,hjw⟩
   ·rintro ⟨i,r,a,b⟩
    rcases List.mem_cons.1 a with rfl | a
    ·rw [hjw] at b; cases b; exact .inr (by simp)
    ·exact .inl ⟨i,r,a,b⟩
  ·rw [Zbd,Zah,Zbd]
   rcases List.mem_append.1 hr with hr | hr
   ·obtain ⟨a,b,id0',cs',e1,e2,e3⟩:=I.cells r hr
    refine ⟨a,by omega,id0',cs',e1,e2,?_⟩
    rw [Zac,if_neg (by omega),Zae,if_neg (by rw [Zbd]; omega),Zac,if_neg (by omega)]
    exact e3
   ·rw [List.mem_singleton] at hr
    subst hr
    refine ⟨hnx,by show h'.next < _; omega,id0,cs,Zbu ok.kn hm,c4,?_⟩
    show ((H.new _ _).set h.next _).objs h'.next=_
    rw [Zac,if_neg (by omega),Zae,if_pos (by rw [Zbd])]
  ·rw [List.map_append]
   exact List.nodup_append.2 ⟨I.kn,by simp,fun a ha b hb e=>by rw [List.map_cons,List.map_nil,List.mem_singleton] at hb; subst hb; subst e; exact hs ha⟩
  ·rw [List.map_append]
   refine List.nodup_append.2 ⟨I.idn,by simp,fun a ha b hb e=>?_⟩
   rw [List.map_cons,List.map_nil,List.mem_singleton] at hb
   subst hb; subst e
   obtain ⟨r,hr,hra⟩:=List.mem_map.1 ha
   have:=(I.cells r hr).2.1
   simp only at hra
   omega
end
end YtihjhelbdbeokaaGreatDoor
end Go.Ab
namespace Go.Ab
theorem Zny {τ:TS} {l:List (ByteArray × Nat)} (h:τ.env.loops=l):({ τ with env:={ τ.env with loops:=l } }:TS)=τ:=by
 obtain ⟨⟨a,b,c⟩,d,e,f⟩:=τ
 simp only at h
 subst h; rfl
theorem wuaddM {n:Nat} (h:n < 18446744073709551615):IntKind.u64.wrap ((n:Int) + 1)=((n + 1:Nat):Int):=by rw [Zay] <;> omega
namespace YtihjhelbdbeokaaGreatDoor
section
variable {K:Out→H→Prop} {p:Prg}
def EndS (p:Prg) (L:Lk) (h:H) (K:Out→H→Prop) (r:TR TS):Prop:=
 Ans r (fun σ'=>∀ L' h',At p L' σ' h'→Fr L L' h h'→K (.ret (.tuple [])) h') (fun e=>∀ L' h',Fr L L' h h'→K (.pan (Zdb e)) h')
def SpSs (p:Prg) (a:List Stm) (lv:Nat):Prop:=∀ (L:Lk) (σ:TS) (h:H) (K:Out→H→Prop),At p L σ h→TOk p σ→σ.ifs ≤ lv→EndS p L h K (Zal p a σ) →
 R 97 [.ptr L.x 0,.vec (a.map Stm.v) .any] h K
theorem EndS.frame {L L1:Lk} {h h1:H} {r:TR TS} (F:Fr L L1 h h1) (hK:EndS p L h K r):EndS p L1 h1 K r:=by
 cases r with
 | ok σ=>exact fun L' h' A' F'=>hK _ _ A' (F.trans F')
 | error e=>exact fun L' h' F'=>hK _ _ (F.trans F')
theorem loopG {k:Int} {s:ByteArray} {e:List Exp} {a b:List Stm} {l:List Kn} {lv:Nat} (hp:PV p) (ha:SpSs p a lv) (good:Zcj p (Zal p a)) {L:Lk} {σ:TS} {h:H} (A:At p L σ h) (ok:TOk p σ) (hifs:σ.ifs ≤ lv)
  (hl:∀ k ∈ l,KOk k) (hK:EndS p L h K (forT p s l (Zal p a) σ)):R 149 [.ptr L.x 0,(Stm.mk k s e a b).v,(nthK l 0).v,(nthK l 1).v] h K:=by
 have ok0:=Zb6 hl 0
 have ok1:=Zb6 hl 1
 unfold forT at hK
 generalize nthK l 0=k0 at *
 generalize nthK l 1=k1 at *
 refine run149 (Nat.le_of_ble_eq_true rfl) ?_
 by_cases c0:k0.kind=1
 rotate_left
 ·rw [if_pos (.inl c0)] at hK
  simp -dsimp -implicitDefEqProofs only [↓STP,STQ,seval,ir149,Zab,Stm.v_mk,eq_false c0]
  refine Zd9 ?_
  simp -dsimp -implicitDefEqProofs only [↓STP,STQ,seval]
  exact hK _ _ (Fr.refl _ _)
 by_cases c1:k1.kind=1
 rotate_left
 ·rw [if_pos (.inr (.inl c1))] at hK
  simp -dsimp -implicitDefEqProofs only [↓STP,STQ,seval,ir149,Zab,Stm.v_mk,eq_true c0,eq_false c1]
  refine Zd9 ?_
  simp -dsimp -implicitDefEqProofs only [↓STP,STQ,seval]
  exact hK _ _ (Fr.refl _ _)
 cases i0:k0.is with
 | false =>
  rw [if_pos (.inr (.inr (.inl i0)))] at hK
  simp -dsimp -implicitDefEqProofs only [↓STP,STQ,seval,ir149,Zab,Stm.v_mk,eq_true c0,eq_true c1,i0]
  refine Zd9 ?_
  simp -dsimp -implicitDefEqProofs only [↓STP,STQ,seval]
  exact hK _ _ (Fr.refl _ _)
 | true =>
 cases i1:k1.is with
 | false =>
  rw [if_pos (.inr (.inr (.inr i1)))] at hK
  simp -dsimp -implicitDefEqProofs only [↓STP,STQ,seval,ir149,Zab,Stm.v_mk,eq_true c0,eq_true c1,i0,i1]
  refine Zd9 ?_
  simp -dsimp -implicitDefEqProofs only [↓STP,STQ,seval]
  exact hK _ _ (Fr.refl _ _)
 | true =>
 rw [if_neg (by simp [c0,c1,i0,i1])] at hK
 simp -dsimp -implicitDefEqProofs only [↓STP,STQ,seval,ir149,Zab,Stm.v_mk,eq_true c0,eq_true c1,i0,i1]
 refine takenG A ?_
 cases ht:Zdl p σ.env s with
 | true =>
  rw [ht,if_pos rfl] at hK
  simp -dsimp -implicitDefEqProofs only [↓STP,STQ,seval]
  refine Zd9 ?_
  simp -dsimp -implicitDefEqProofs only [↓STP,STQ,seval]
  exact hK _ _ (Fr.refl _ _)
 | false =>
 rw [ht,if_neg (by decide)] at hK
 have hsl:s ∉ σ.env.loops.map (·.1):=by
  unfold Zdl at ht
  simp only [Bool.or_eq_false_iff] at ht
  have:=ht.2
  cases hf:Zaj s σ.env.loops with
  | none=>exact findL_none.1 hf
  | some v=>rw [hf] at this; cases this
 have gx:=Zam A.x
 obtain ⟨ver,hv⟩:=A.v
 obtain ⟨h1,hmd,n1,s1,v1⟩:=Zvp (s:=s) hv
 simp -dsimp -implicitDefEqProofs only [↓STP,STQ,seval,gx,Lk.cs,hmd]
 obtain ⟨A1,F1⟩:=A.setVars (h':=h1) ⟨n1,s1⟩ v1 (vars':=setV σ.env.vars s none) (fun t=>by rw [Zlf A.esn,A.es]; rfl) (List.Nodup.sublist Zqo A.esn)
 have ok1':TOk p { σ with env:={ σ.env with vars:=setV σ.env.vars s none } }:=⟨ok.env.setV (fun k w h=>by cases h),ok.steps,ok.most⟩
 generalize hσ1:({ σ with env:={ σ.env with vars:=setV σ.env.vars s none } }:TS)=σ1 at *
 generalize hL1:({ L with es:=delE s L.es }:Lk)=L1 at *
 have hlp:σ1.env.loops=σ.env.loops:=by subst hσ1; rfl
 have hif:σ1.ifs=σ.ifs:=by subst hσ1; rfl
 have hx1:L1.x=L.x:=by subst hL1; rfl
 have hv1:=ok1.lt
 have hv0:=ok0.lt
 refine Zai (fun c s'=>∃ n τ tl L' h',c=k1.val + 1 - n∧n ≤ 1152921504606846976∧(tl=[]∨∃ q,tl=[(s,q)])∧At p L' { τ with env:={ τ.env with loops:=σ.env.loops ++ tl } } h'∧TOk p τ∧τ.env.loops=σ.env.loops∧τ.ifs=σ.ifs∧Fr L L' h h' ∧
  EndS p L h K (Zgu (Zoy s (Zal p a)) (k1.val + 1 - n) n τ) ∧
  s'=⟨upd (upd (upd (upd ρ0 0 (.ptr L.x 0)) 5 (.lptr 0 5 0)) 7 (.lptr 1 4 0)) 8 (W n),upd (upd m0 0 (some [I k,.str s,.vec (e.map Exp.v) .any,.vec (a.map Stm.v) .any,.vec (b.map Stm.v) .any])) 1 (some [I k1.kind,I k1.w,.bool true,W k1.val]),2,[],h'⟩)
  (i:=k1.val + 1 - k0.val) ⟨k0.val,σ1,[],L1,h1,rfl,by omega,.inl rfl,by rw [List.append_nil,← hlp]; exact A1,ok1',hlp,hif,F1,hK,by simp -dsimp -implicitDefEqProofs only [↓STP,STQ,seval] <;> rfl⟩ ?_ mono
 rintro c s' ⟨n,τ,tl,L',h',rfl,hn,htl,A',okτ,hτl,hτi,F',hK',rfl⟩
 have gx':=Zam A'.x
 rw [F'.x] at gx'
 by_cases hle:n ≤ k1.val
 rotate_left
 ·-- behind the last iteration
  have hle':¬ ((n:Nat):Int) ≤ ((k1.val:Nat):Int):=by omega
  rw [show k1.val + 1 - n=0 by omega,Zgu] at hK'
  obtain ⟨ver',hl'⟩:=A'.l
  obtain ⟨h2,hmd2,n2,s2,v2⟩:=Zvp (s:=s) hl'
  simp -dsimp -implicitDefEqProofs only [↓STP,STQ,seval,eq_false hle',gx',Lk.cs,hmd2]
  have hdel:delE s (σ.env.loops ++ tl)=σ.env.loops:=by
   rcases htl with rfl | ⟨q,rfl⟩
   ·rw [List.append_nil]; exact Zn7 hsl
   ·exact Zn8 hsl
  simp only at v2
  rw [hdel] at v2
  obtain ⟨A2,F2⟩:=A'.setLoops (h':=h2) ⟨n2,s2⟩ v2
  have A2':At p L' { τ with env:={ τ.env with loops:=σ.env.loops } } h2:=A2
  rw [Zny hτl] at A2'
  exact hK' _ _ A2' (F'.trans F2)
 ·have hle':((n:Nat):Int) ≤ ((k1.val:Nat):Int):=by omega
  simp -dsimp -implicitDefEqProofs only [↓STP,STQ,seval,eq_true hle']
  rw [show k1.val + 1 - n=(k1.val + 1 - (n + 1)) + 1 by omega,Zgu] at hK'
  unfold Zoy at hK'
  rw [← F'.x]
  refine stepG A' okτ.steps ?_
  unfold Zhu at hK' ⊢
  by_cases hst:10000 ≤ τ.steps
  ·rw [if_pos hst]
   rw [if_pos hst] at hK'
   simp -dsimp -implicitDefEqProofs only [↓STP,STQ,seval]
   exact hK' _ _ F'
  ·rw [if_neg hst]
   rw [if_neg hst] at hK'
   simp only [Zau] at hK'
   rw [Zc1]
   intro h2 A2 F2
   have gx2:=Zam A2.x
   obtain ⟨ver2,hl2⟩:=A2.l
   simp only at hl2
   obtain ⟨ver3,hup⟩:=Zii (f:=conV) (s:=s) (v:=n) hl2
   have hset:setE s n (σ.env.loops ++ tl)=σ.env.loops ++ [(s,n)]:=by
    rcases htl with rfl | ⟨q,rfl⟩
    ·rw [List.append_nil]; exact Zfr hsl
    ·exact Zjf hsl
   rw [hset] at hup
   simp -dsimp -implicitDefEqProofs only [↓STP,STQ,seval,gx2,Lk.cs]
   refine Zn9 (by omega) ?_
   rw [show conV n=V.agg [I (kcon n).kind,I (kcon n).w,.bool (kcon n).is,W (kcon n).val] from rfl] at hup
   simp -dsimp -implicitDefEqProofs only [↓STP,STQ,seval,gx2,Lk.cs,Zab,hup]
   obtain ⟨A3,F3⟩:=A2.setLoops (h':=h2.set L'.l (.map (mapO conV (σ.env.loops ++ [(s,n)])) ver3)) Zm0 (loops':=σ.env.loops ++ [(s,n)]) ⟨ver3,by rw [Zac,if_pos rfl]⟩
   have ok3:TOk p { τ with steps:=τ.steps + 1,env:={ τ.env with loops:=τ.env.loops ++ [(s,n)] } }:=⟨⟨okτ.env.vars,fun t m hm=>by
    have hm:(t,m) ∈ τ.env.loops ++ [(s,n)]:=hm
    rcases List.mem_append.1 hm with hm | hm
    ·exact okτ.env.loops t m hm
    ·rw [List.mem_singleton] at hm; cases hm; omega,okτ.env.wlen,okτ.env.words⟩,by show τ.steps + 1 ≤ 10000; omega,okτ.most⟩
   have A3':At p L' { τ with steps:=τ.steps + 1,env:={ τ.env with loops:=τ.env.loops ++ [(s,n)] } } (h2.set L'.l (.map (mapO conV (σ.env.loops ++ [(s,n)])) ver3)):=by rw [hτl]; exact A3
   refine ha _ _ _ _ A3' ok3 (by show τ.ifs ≤ lv; omega) ?_
   cases hr:Zal p a { τ with steps:=τ.steps + 1,env:={ τ.env with loops:=τ.env.loops ++ [(s,n)] } } with
   | error er =>
    rw [hr] at hK'
    intro L4 h4 F4
    simp -dsimp -implicitDefEqProofs only [↓STP,STQ,seval]
    exact hK' _ _ (((F'.trans F2).trans F3).trans F4)
   | ok σ4 =>
    rw [hr] at hK'
    simp only [Zau] at hK'
    have kp:=good _ _ ok3 hr
    intro L4 h4 A4 F4
    simp -dsimp -implicitDefEqProofs only [↓STP,STQ,seval,wuaddM (show n < 18446744073709551615 by omega)]
    have FF:=((F'.trans F2).trans F3).trans F4
    refine ⟨k1.val + 1 - (n + 1),by omega,n + 1,{ σ4 with env:={ σ4.env with loops:=τ.env.loops } },[(s,n)],L4,h4,rfl,by omega,.inr ⟨n,rfl⟩,?_,⟨⟨kp.ok.env.vars,okτ.env.loops,kp.ok.env.wlen,kp.ok.env.words⟩,kp.ok.steps,kp.ok.most⟩,hτl,kp.ifs.trans hτi,FF,hK',?_⟩
    ·have hl4:σ4.env.loops=σ.env.loops ++ [(s,n)]:=by rw [kp.loops,← hτl]
     show At p L4 { σ4 with env:={ σ4.env with loops:=σ.env.loops ++ [(s,n)] } } h4
     rw [Zny hl4]
     exact A4
    ·rw [F'.x]
end
end YtihjhelbdbeokaaGreatDoor
end Go.Ab
namespace Go.Ab
theorem Zco {h:H} {id j:Nat} {cs:List V} {v:V} (hg:h.get id=some cs) (hj:j < cs.length) (hv:v.outS=some v) (hc:v.cells=[v]) {ρ:Nat→V} {m:Nat→Option (List V)} {n:Nat} {u:List Nat} :
  Zad ⟨ρ,m,n,u,h⟩ (.ptr id j) v 1=some ⟨ρ,m,n,u,h.set id (.cells (cs.set j v))⟩:=by
 simp only [Zad,hc,hv,hg,List.length_cons,List.length_nil]
 rw [if_pos ⟨trivial,by decide⟩,if_pos (by omega),over_one hj]
 rfl
theorem At.frame {p:Prg} {L:Lk} {σ:TS} {h h':H} (A:At p L σ h) (hn:h.next ≤ h'.next) (e:∀ id ∈ L.own,h'.objs id=h.objs id):At p L σ h':=by
 have hx:∀ {id},id ∈ [L.x,L.i,L.s,L.v,L.w,L.l]→id ∈ L.own:=fun h=>List.mem_append_left _ h
 refine ⟨?_,?_,?_,?_,?_,?_,A.es,A.esn,fun i d hd=>?_,A.wsn,A.wk,A.nd,fun id hi=>Nat.lt_of_lt_of_le (A.lt id hi) hn⟩
 ·rw [e _ (hx (by simp))]; exact A.x
 ·rw [e _ (hx (by simp))]; exact A.i
 ·rw [e _ (hx (by simp))]; exact A.s
 ·rw [e _ (hx (by simp))]; exact A.v
 ·rw [e _ (hx (by simp))]; exact A.w
 ·rw [e _ (hx (by simp))]; exact A.l
 ·obtain ⟨id,ws,a,b,c⟩:=A.ws i d hd
  exact ⟨id,ws,a,b,by rw [e _ (A.ws_own b).1]; exact c⟩
theorem At.wsOk {p:Prg} (hp:PV p) {L:Lk} {σ:TS} {h:H} (A:At p L σ h) (ok:EOkT p σ.env):WsOk h L.ws:=by
 refine ⟨A.wsn,fun r hr=>?_⟩
 obtain ⟨d,hd,hn⟩:=A.wk r hr
 obtain ⟨i,hi⟩:=List.mem_iff_getElem?.1 hd
 obtain ⟨id,ws,a,b,c⟩:=A.ws i d hi
 obtain ⟨s,rid,rlen⟩:=r
 simp only at hn
 subst hn
 rw [Zbu A.wsn hr] at b
 simp only [Option.some.injEq,Prod.mk.injEq] at b
 obtain ⟨rfl,rfl⟩:=b
 have h1:=(ok.words i ws d a hi).1
 have h2:=hp.ars d hd
 exact ⟨A.lt _ (A.ws_own (Zbu A.wsn hr)).1,by show 0 < ws.length; omega,by show ws.length ≤ 64; omega,_,c,by simp [Zar]⟩
theorem Lk.x_lt {p:Prg} {L:Lk} {σ:TS} {h:H} (A:At p L σ h):L.x < h.next∧L.i < h.next∧L.s < h.next∧L.v < h.next∧L.w < h.next∧L.l < h.next:=
 ⟨A.lt _ (by simp [Lk.own]),A.lt _ (by simp [Lk.own]),A.lt _ (by simp [Lk.own]),A.lt _ (by simp [Lk.own]),A.lt _ (by simp [Lk.own]),A.lt _ (by simp [Lk.own])⟩
theorem Ztw {p:Prg} {L L1:Lk} {σ σ1:TS} {h h2 h3 h4 h6:H} {acc:List (ByteArray × Nat × Nat)} {va:Nat} (A:At p L σ h) (F3:Fr L L h h3) (A4:At p L1 σ1 h4) (F4:Fr L L1 h3 h4) (hloops:σ1.env.loops=σ.env.loops)
  (C:Copy h2 L.ws h3 acc) (h2n:h2.next=h.next + 1) (h2o:∀ id ∈ L.own,id ≠ L.x→h2.objs id=h.objs id) (hva:h3.objs (h.next + 1)=some (.map (mapO refV acc) va)) (hn3:h.next + 1 < h3.next)
  (h6x:h6.objs L.x=some (.cells (Lk.cs ⟨L1.x,L1.i,L1.s,h4.next,h.next + 1,L1.l,L.es,acc⟩ { σ1 with env:=σ.env }))) (h6v:h6.objs h4.next=some (.map (mapO vkV L.es) 0)) (h6o:∀ j,j < h4.next→j ≠ L.x→h6.objs j=h4.objs j) (h6n:h6.next=h4.next + 1) :
  At p ⟨L1.x,L1.i,L1.s,h4.next,h.next + 1,L1.l,L.es,acc⟩ { σ1 with env:=σ.env } h6∧Fr L ⟨L1.x,L1.i,L1.s,h4.next,h.next + 1,L1.l,L.es,acc⟩ h h6 ∧
   (L1.v ∉ Lk.own ⟨L1.x,L1.i,L1.s,h4.next,h.next + 1,L1.l,L.es,acc⟩)∧(L1.w ∉ Lk.own ⟨L1.x,L1.i,L1.s,h4.next,h.next + 1,L1.l,L.es,acc⟩)∧(∀ r ∈ L1.ws,r.2.1 ∉ Lk.own ⟨L1.x,L1.i,L1.s,h4.next,h.next + 1,L1.l,L.es,acc⟩) ∧
   h.next ∉ Lk.own ⟨L1.x,L1.i,L1.s,h4.next,h.next + 1,L1.l,L.es,acc⟩:=by
 have hxx:L1.x=L.x:=F4.x
 have hn4:=F4.nx
 have hown:∀ id ∈ L1.own,id < h.next∨(h3.next ≤ id∧id < h4.next):=fun id hi=>(F4.own id hi).elim (fun hh=>.inl (A.lt id hh)) (fun hh=>.inr ⟨hh,A4.lt id hi⟩)
 have keep4:∀ id,h.next ≤ id→id < h3.next→h4.objs id=h3.objs id:=fun id h1' h2'=>F4.same id h2' (fun hi=>by have:=A.lt id hi; omega)
 have Ci:∀ r ∈ acc,h.next + 1 < r.2.1∧r.2.1 < h3.next:=fun r hr=>by have:=C.ids r hr; rw [h2n] at this; exact this
 obtain ⟨⟨xi,xs,xv,xw,xl,xn⟩,⟨is,iv,iw,il,in_⟩,⟨sv,sw,sl,sn⟩,⟨vw,vl,vn⟩,⟨wl,wn⟩,ln,wnd⟩:=Lk.dist A4.nd
 have mx:=hown L1.x (by simp [Lk.own])
 have mi:=hown L1.i (by simp [Lk.own])
 have ms:=hown L1.s (by simp [Lk.own])
 have mv:=hown L1.v (by simp [Lk.own])
 have mw:=hown L1.w (by simp [Lk.own])
 have ml:=hown L1.l (by simp [Lk.own])
 have mws:∀ r ∈ L1.ws,r.2.1 < h.next∨(h3.next ≤ r.2.1∧r.2.1 < h4.next):=fun r hr=>hown _ (List.mem_append_right _ (List.mem_map.2 ⟨r,hr,rfl⟩))
 have mem2:∀ id,id ∈ Lk.own ⟨L1.x,L1.i,L1.s,h4.next,h.next + 1,L1.l,L.es,acc⟩ ↔ (id=L1.x∨id=L1.i∨id=L1.s∨id=h4.next∨id=h.next + 1∨id=L1.l∨∃ r ∈ acc,r.2.1=id):=by
  intro id
  simp only [Lk.own,List.cons_append,List.nil_append,List.mem_cons,List.mem_map]
 have nacc:∀ id,(id < h.next∨h3.next ≤ id∨id=h.next∨id=h.next + 1)→¬ ∃ r ∈ acc,r.2.1=id:=fun id hid ⟨r,hr,e⟩=>by have:=Ci r hr; omega
 refine ⟨⟨by rw [show (Lk.mk L1.x L1.i L1.s h4.next (h.next + 1) L1.l L.es acc).x=L.x from hxx]; exact h6x,?_,?_,⟨0,h6v⟩,⟨va,?_⟩,?_,A.es,A.esn,fun i d hd=>?_,C.kn,fun r hr=>?_,?_,fun id hi=>?_⟩,⟨?_,hxx,fun id hl hn=>?_,fun id hi=>?_⟩,?_,?_,?_,?_⟩
 ·show ∃ ver,h6.objs L1.i=_
  rw [h6o _ (by omega) (by rw [← hxx]; exact xi.symm)]; exact A4.i
 ·show ∃ ver,h6.objs L1.s=_
  rw [h6o _ (by omega) (by rw [← hxx]; exact xs.symm)]; exact A4.s
 ·show h6.objs (h.next + 1)=_
  rw [h6o _ (by omega) (by have:=(Lk.x_lt A).1; omega),keep4 _ (by omega) hn3]; exact hva
 ·show ∃ ver,h6.objs L1.l=some (.map (mapO conV σ.env.loops) ver)
  rw [h6o _ (by omega) (by rw [← hxx]; exact xl.symm),← hloops]; exact A4.l
 ·obtain ⟨id0,ws0,a1,b1,c1⟩:=A.ws i d hd
  obtain ⟨id,cs,e1,e2,e3⟩:=C.all _ _ _ b1
  have hid:=Ci _ (Zbr e1)
  simp only at hid
  rw [h2o id0 (A.ws_own b1).1 (A.ws_own b1).2.1,c1] at e2
  simp only [Option.some.injEq,O.cells.injEq] at e2
  refine ⟨id,ws0,a1,e1,?_⟩
  rw [h6o _ (by omega) (by have:=(Lk.x_lt A).1; omega),keep4 _ (by omega) hid.2,e3,e2]
 ·obtain ⟨r0,hr0,e⟩:=List.mem_map.1 (C.keys r hr)
  obtain ⟨d,hd,hn⟩:=A.wk r0 hr0
  exact ⟨d,hd,hn.trans e⟩
 ·show (Lk.own ⟨L1.x,L1.i,L1.s,h4.next,h.next + 1,L1.l,L.es,acc⟩).Nodup
  have hx1:=nacc L1.x (by omega)
  have hi1:=nacc L1.i (by omega)
  have hs1:=nacc L1.s (by omega)
  have hl1:=nacc L1.l (by omega)
  have hb1:=nacc h4.next (by omega)
  have hm1:=nacc (h.next + 1) (by omega)
  simp only [Lk.own,List.cons_append,List.nil_append,List.nodup_cons,List.mem_cons,not_or,List.mem_map]
  exact ⟨⟨xi,xs,by omega,by omega,xl,hx1⟩,⟨is,by omega,by omega,il,hi1⟩,⟨by omega,by omega,sl,hs1⟩,⟨by omega,by omega,hb1⟩,⟨by omega,hm1⟩,hl1,C.idn⟩
 ·rcases (mem2 id).1 hi with rfl | rfl | rfl | rfl | rfl | rfl | ⟨r,hr,rfl⟩
  ·omega
  ·omega
  ·omega
  ·omega
  ·omega
  ·omega
  ·have:=Ci r hr; omega
 ·omega
 ·rw [h6o id (by omega) (fun e=>hn (by rw [e]; exact L.x_mem)),F4.same id (by omega) hn]
  exact F3.same id hl hn
 ·rcases (mem2 id).1 hi with rfl | rfl | rfl | rfl | rfl | rfl | ⟨r,hr,rfl⟩
  ·exact .inl (by rw [hxx]; exact L.x_mem)
  ·exact (F4.own L1.i (by simp [Lk.own])).imp id (fun hh=>by omega)
  ·exact (F4.own L1.s (by simp [Lk.own])).imp id (fun hh=>by omega)
  ·exact .inr (by omega)
  ·exact .inr (by omega)
  ·exact (F4.own L1.l (by simp [Lk.own])).imp id (fun hh=>by omega)
  ·exact .inr (by have:=Ci r hr; omega)
 ·intro hi
  rcases (mem2 _).1 hi with e | e | e | e | e | e | e
  ·exact xv e.symm
  ·exact iv e.symm
  ·exact sv e.symm
  ·omega
  ·omega
  ·exact vl e
  ·exact nacc L1.v (by omega) e
 ·intro hi
  rcases (mem2 _).1 hi with e | e | e | e | e | e | e
  ·exact xw e.symm
  ·exact iw e.symm
  ·exact sw e.symm
  ·omega
  ·omega
  ·exact wl e
  ·exact nacc L1.w (by omega) e
 ·intro r hr hi
  have hm:=mws r hr
  have hmem:r.2.1 ∈ L1.ws.map fun r=>r.2.1:=List.mem_map.2 ⟨r,hr,rfl⟩
  rcases (mem2 _).1 hi with e | e | e | e | e | e | e
  ·exact xn (e ▸ hmem)
  ·exact in_ (e ▸ hmem)
  ·exact sn (e ▸ hmem)
  ·omega
  ·omega
  ·exact ln (e ▸ hmem)
  ·exact nacc r.2.1 (by omega) e
 ·intro hi
  rcases (mem2 _).1 hi with e | e | e | e | e | e | e
  ·omega
  ·omega
  ·omega
  ·omega
  ·omega
  ·omega
  ·exact nacc h.next (by omega) e
theorem At.newVars {p:Prg} {L:Lk} {σ:TS} {h h':H} {bo:Nat} (A:At p L σ h) (hb:bo ∉ L.own) (hl:bo < h.next) {es':List (ByteArray × Int × Nat)} {vars':ByteArray→Option (Int × Nat)} (ho:∃ ver,h.objs bo=some (.map (mapO vkV es') ver))
  (hx:h'.objs L.x=some (.cells (Lk.cs { L with v:=bo,es:=es' } σ))) (c:Chg h h' L.x)
  (hf:∀ s,Zaj s es'=vars' s) (hn:(es'.map (·.1)).Nodup):At p { L with v:=bo,es:=es' } { σ with env:={ σ.env with vars:=vars' } } h':=by
 obtain ⟨⟨xi,xs,xv,xw,xl,xn⟩,⟨is,iv,iw,il,in_⟩,⟨sv,sw,sl,sn⟩,⟨vw,vl,vn⟩,⟨wl,wn⟩,ln,wnd⟩:=Lk.dist A.nd
 have hb':=hb
 simp only [Lk.own,List.cons_append,List.nil_append,List.mem_cons,not_or] at hb'
 obtain ⟨bx,bi,bs,bv,bw,bl,bn⟩:=hb'
 refine ⟨hx,?_,?_,?_,?_,?_,hf,hn,fun i d hd=>?_,A.wsn,A.wk,?_,fun id hi=>?_⟩
 ·show ∃ ver,h'.objs L.i=_; rw [c.same _ xi.symm]; exact A.i
 ·show ∃ ver,h'.objs L.s=_; rw [c.same _ xs.symm]; exact A.s
 ·show ∃ ver,h'.objs bo=_; rw [c.same _ bx]; exact ho
 ·show ∃ ver,h'.objs L.w=_; rw [c.same _ xw.symm]; exact A.w
 ·show ∃ ver,h'.objs L.l=_; rw [c.same _ xl.symm]; exact A.l
 ·obtain ⟨id,ws,a,b,e⟩:=A.ws i d hd
  exact ⟨id,ws,a,b,by rw [c.same _ (A.ws_own b).2.1]; exact e⟩
 ·simp only [Lk.own,List.cons_append,List.nil_append,List.nodup_cons,List.mem_cons,not_or]
  exact ⟨⟨xi,xs,fun e=>bx e.symm,xw,xl,xn⟩,⟨is,fun e=>bi e.symm,iw,il,in_⟩,⟨fun e=>bs e.symm,sw,sl,sn⟩,⟨bw,bl,bn⟩,⟨wl,wn⟩,ln,wnd⟩
 ·rw [c.next]
  simp only [Lk.own,List.cons_append,List.nil_append,List.mem_cons] at hi
  have hall:=A.lt
  simp only [Lk.own,List.cons_append,List.nil_append,List.mem_cons] at hall
  rcases hi with e | e | e | e | e | e | e
  ·exact hall _ (.inl e)
  ·exact hall _ (.inr (.inl e))
  ·exact hall _ (.inr (.inr (.inl e)))
  ·rw [e]; exact hl
  ·exact hall _ (.inr (.inr (.inr (.inr (.inl e)))))
  ·exact hall _ (.inr (.inr (.inr (.inr (.inr (.inl e))))))
  ·exact hall _ (.inr (.inr (.inr (.inr (.inr (.inr e))))))
theorem At.newWords {p:Prg} {L:Lk} {σ:TS} {h h':H} {words':List (List Nat)} (A:At p L σ h) (hn:h.next ≤ h'.next) (e:∀ id ∈ [L.x,L.i,L.s,L.v,L.w,L.l],h'.objs id=h.objs id)
  (hw:∀ (i:Nat) (d:ArD),p.arrays[i]?=some d→∃ id ws,words'[i]?=some ws∧Zaj d.name L.ws=some (id,ws.length)∧h'.objs id=some (.cells (Zar ws))):At p L { σ with env:={ σ.env with words:=words' } } h':=by
 refine ⟨?_,?_,?_,?_,?_,?_,A.es,A.esn,hw,A.wsn,A.wk,A.nd,fun id hi=>Nat.lt_of_lt_of_le (A.lt id hi) hn⟩
 ·rw [e _ (by simp)]; exact A.x
 ·rw [e _ (by simp)]; exact A.i
 ·rw [e _ (by simp)]; exact A.s
 ·rw [e _ (by simp)]; exact A.v
 ·rw [e _ (by simp)]; exact A.w
 ·rw [e _ (by simp)]; exact A.l
structure BothI (vA bo:Nat) (es:List (ByteArray × Int × Nat)) (f:ByteArray→Option (Int × Nat)) (h9:H) (seen:List Nat) (acc:List (ByteArray × Int × Nat)) (h':H):Prop where
 m:∃ va,h'.objs bo=some (.map (mapO vkV acc) va)
 i:h'.objs (bo + 1)=some (.iter vA 0 seen)
 old:∀ j,j < bo→h'.objs j=h9.objs j
 nx:h'.next=bo + 2
 sn:seen.Nodup
 sl:∀ j ∈ seen,j < es.length
 yes:∀ s,(∃ j r,j ∈ seen∧es[j]?=some (s,r))→Zaj s acc=f s
 no:∀ s,(¬ ∃ j r,j ∈ seen∧es[j]?=some (s,r))→Zaj s acc=none
 kn:(acc.map (·.1)).Nodup
theorem BothI.step {vA bo:Nat} {es acc acc':List (ByteArray × Int × Nat)} {f:ByteArray→Option (Int × Nat)} {h9 h' h'':H} {seen:List Nat} {j:Nat} {s:ByteArray} {r:Int × Nat} (I:BothI vA bo es f h9 seen acc h')
  (hes:(es.map (·.1)).Nodup) (hj:es[j]?=some (s,r)) (hn:j ∉ seen) (hm:∃ va,h''.objs bo=some (.map (mapO vkV acc') va)) (hi:h''.objs (bo + 1)=some (.iter vA 0 (j :: seen))) (ho:∀ j,j < bo→h''.objs j=h'.objs j) (hx:h''.next=h'.next)
  (hacc:∀ t,Zaj t acc'=if t=s then f s else Zaj t acc) (hkn:(acc'.map (·.1)).Nodup):BothI vA bo es f h9 (j :: seen) acc' h'':=by
 have hjl:j < es.length:=(List.getElem?_eq_some_iff.1 hj).1
 refine ⟨hm,hi,fun i hil=>by rw [ho i hil,I.old i hil],hx.trans I.nx,List.nodup_cons.2 ⟨hn,I.sn⟩,fun i hi=>(List.mem_cons.1 hi).elim (fun e=>e ▸ hjl) (I.sl i),fun t ht=>?_,fun t ht=>?_,hkn⟩
 ·rw [hacc]
  by_cases c:t=s
  ·rw [if_pos c,c]
  ·rw [if_neg c]
   obtain ⟨i,q,hi,hq⟩:=ht
   rcases List.mem_cons.1 hi with rfl | hi
   ·rw [hj] at hq; cases hq; exact absurd rfl c
   ·exact I.yes t ⟨i,q,hi,hq⟩
 ·rw [hacc]
  by_cases c:t=s
  ·exact absurd ⟨j,r,List.mem_cons_self,by rw [c]; exact hj⟩ ht
  ·rw [if_neg c]
   exact I.no t fun ⟨i,q,hi,hq⟩=>ht ⟨i,q,List.mem_cons_of_mem _ hi,hq⟩
theorem BothI.unseen {vA bo:Nat} {es acc:List (ByteArray × Int × Nat)} {f:ByteArray→Option (Int × Nat)} {h9 h':H} {seen:List Nat} {j:Nat} {s:ByteArray} {r:Int × Nat} (I:BothI vA bo es f h9 seen acc h')
  (hes:(es.map (·.1)).Nodup) (hj:es[j]?=some (s,r)) (hn:j ∉ seen):Zaj s acc=none:=
 I.no s fun ⟨i,q,hi,hq⟩=>hn (Zgs hes hq hj rfl ▸ hi)
def cw (p:Prg) (ws:List (List Nat)) (s:ByteArray):List Nat:=ws.getD ((arOf p s).getD 0) []
theorem At.wordOf {p:Prg} (hp:PV p) {L:Lk} {σ:TS} {h:H} (A:At p L σ h) {i:Nat} {d:ArD} (hd:p.arrays[i]?=some d) :
  ∃ id,σ.env.words[i]?=some (cw p σ.env.words d.name)∧Zaj d.name L.ws=some (id,(cw p σ.env.words d.name).length)∧h.objs id=some (.cells (Zar (cw p σ.env.words d.name))):=by
 obtain ⟨id,ws,a,b,c⟩:=A.ws i d hd
 have e:cw p σ.env.words d.name=ws:=by
  unfold cw
  rw [Zkd hp hd,Option.getD_some,List.getD_eq_getElem?_getD,a]; rfl
 rw [e]
 exact ⟨id,a,b,c⟩
theorem At.wordR {p:Prg} (hp:PV p) {L:Lk} {σ:TS} {h:H} (A:At p L σ h) {r:ByteArray × Nat × Nat} (hr:r ∈ L.ws):∃ (i:Nat) (d:ArD),p.arrays[i]?=some d∧d.name=r.1∧r.2.2=(cw p σ.env.words r.1).length∧h.objs r.2.1=some (.cells (Zar (cw p σ.env.words r.1))):=by
 obtain ⟨d,hd,hn⟩:=A.wk r hr
 obtain ⟨i,hi⟩:=List.mem_iff_getElem?.1 hd
 obtain ⟨id,a,b,c⟩:=A.wordOf hp hi
 obtain ⟨s,rid,rlen⟩:=r
 simp only at hn
 subst hn
 rw [Zbu A.wsn hr] at b
 simp only [Option.some.injEq,Prod.mk.injEq] at b
 obtain ⟨rfl,rfl⟩:=b
 exact ⟨i,d,hi,rfl,rfl,c⟩
theorem Zri {p:Prg} (hp:PV p) {σ:TE} (ok:EOkT p σ) {i:Nat} {d:ArD} (hd:p.arrays[i]?=some d):((cw p σ.words d.name).length:Int)=d.size:=by
 have hl:i < σ.words.length:=by rw [ok.wlen]; exact (List.getElem?_eq_some_iff.1 hd).1
 have e:cw p σ.words d.name=σ.words[i]:=by
  unfold cw
  rw [Zkd hp hd,Option.getD_some,List.getD_eq_getElem?_getD,List.getElem?_eq_getElem hl]; rfl
 rw [e]
 exact (ok.words i _ d (List.getElem?_eq_getElem hl) hd).1
structure WordI (p:Prg) (w1 w2:List (List Nat)) (ws:List (ByteArray × Nat × Nat)) (wm ver:Nat) (h11:H) (seen:List Nat) (h':H):Prop where
 i:h'.objs h11.next=some (.iter wm ver seen)
 old:∀ j,j < h11.next→(∀ r ∈ ws,r.2.1 ≠ j)→h'.objs j=h11.objs j
 nx:h'.next=h11.next + 1
 sn:seen.Nodup
 sl:∀ j ∈ seen,j < ws.length
 yes:∀ j r,ws[j]?=some r→j ∈ seen→h'.objs r.2.1=some (.cells (Zar (List.zipWith max (cw p w2 r.1) (cw p w1 r.1))))
 no:∀ j r,ws[j]?=some r→j ∉ seen→h'.objs r.2.1=some (.cells (Zar (cw p w2 r.1)))
def half (a b:List Nat) (i:Nat):List Nat:=(List.zipWith max a b).take i ++ a.drop i
theorem Znt {a b:List Nat}:half a b 0=a:=by simp [half]
theorem Zrd {a b:List Nat} (h:a.length=b.length):half a b a.length=List.zipWith max a b:=by
 unfold half
 rw [List.take_of_length_le (by rw [List.length_zipWith]; omega),List.drop_length,List.append_nil]
theorem Zi1 {a b:List Nat} (h:a.length=b.length) {i:Nat} (hi:i ≤ a.length):(half a b i).length=a.length:=by
 unfold half
 rw [List.length_append,List.length_take,List.length_zipWith,List.length_drop]; omega
theorem Zrc {a b:List Nat} (h:a.length=b.length) {i:Nat} (hi:i < a.length):(half a b i).getD i 0=a.getD i 0:=by
 unfold half
 rw [List.getD_eq_getElem?_getD,List.getElem?_append_right (by rw [List.length_take,List.length_zipWith]; omega),List.length_take,List.length_zipWith,List.getElem?_drop,List.getD_eq_getElem?_getD]
 congr 2
 omega
theorem Zrb {a b:List Nat} (h:a.length=b.length) {i:Nat} (hi:i < a.length):(half a b i).set i (max (a.getD i 0) (b.getD i 0))=half a b (i + 1):=by
 unfold half
 have hz:(List.zipWith max a b).length=a.length:=by rw [List.length_zipWith]; omega
 rw [List.set_append_right _ _ (by rw [List.length_take]; omega),List.length_take,hz,show i - min i a.length=0 by omega,List.take_add_one,List.getElem?_zipWith,List.getElem?_eq_getElem hi,List.getElem?_eq_getElem (show i < b.length by omega)]
 simp [List.getD_eq_getElem?_getD,List.getElem?_eq_getElem hi,List.getElem?_eq_getElem (show i < b.length by omega)]
 rw [List.drop_eq_getElem_cons hi]
 rfl
theorem Zg6 {h:H} {id:Nat} {o o':O}:(h.set id o).set id o'=h.set id o':=by
 simp only [H.set]
 congr 1
 funext j
 simp only [upd]
 split <;> rfl
theorem Zfw {l:List Nat} {i w:Nat}:(Zar l).set i (I (w:Int))=Zar (l.set i w):=by simp [Zar,List.map_set]
theorem Zbq {l:List Nat}:(Zar l).length=l.length:=by simp [Zar]
namespace YtihjhelbdbeokaaGreatDoor
section
variable {K:Out→H→Prop} {p:Prg}
theorem branchG {a b:List Stm} {lv:Nat} (hp:PV p) (ha:SpSs p a (lv + 1)) (hb:SpSs p b (lv + 1)) (ga:Zcj p (Zal p a)) (gb:Zcj p (Zal p b)) {L:Lk} {σ:TS} {h:H} (A:At p L σ h) (ok:TOk p σ) (hifs:σ.ifs ≤ lv) (hlv:lv ≤ 100)
  (hK:EndS p L h K (andT (Zal p a { σ with ifs:=σ.ifs + 1 }) fun σ1=>andT (Zal p b { σ1 with env:=σ.env }) fun σ2 =>
   .ok { σ2 with ifs:=σ.ifs,env:={ σ.env with vars:=Zex σ.env.vars σ1.env.vars σ2.env.vars,words:=maxW σ2.env.words σ1.env.words } })) :
  R 148 [.ptr L.x 0,.vec (a.map Stm.v) .any,.vec (b.map Stm.v) .any] h K:=by
 refine run148 (Nat.le_of_ble_eq_true rfl) ?_
 have gx:=Zam A.x
 have w1:IntKind.i64.wrap ((σ.ifs:Int) + 1)=((σ.ifs + 1:Nat):Int):=by rw [wrap_i64] <;> omega
 obtain ⟨A1,F1⟩:=A.count { σ with ifs:=σ.ifs + 1 } rfl
 have st1:=fun ρ m n u=>Zco (ρ:=ρ) (m:=m) (n:=n) (u:=u) (j:=7) (v:=I ((σ.ifs + 1:Nat):Int)) gx (by simp [Lk.cs]) rfl rfl
 have e1:(L.cs σ).set 7 (I ((σ.ifs + 1:Nat):Int))=L.cs { σ with ifs:=σ.ifs + 1 }:=rfl
 rw [e1] at st1
 generalize hh1:h.set L.x (.cells (L.cs { σ with ifs:=σ.ifs + 1 }))=h1 at *
 have n1:h1.next=h.next:=by rw [← hh1]; rfl
 have gx1:=Zam A1.x
 obtain ⟨verv,hv1⟩:=A1.v
 obtain ⟨verw,hw1⟩:=A1.w
 simp -dsimp -implicitDefEqProofs only [↓STP,STQ,seval,ir148,gx,Lk.cs,w1,st1,gx1]
 refine cloneG hv1 ?_
 have xl:=Lk.x_lt A1
 have gx2:(h1.new (.map (mapO vkV L.es) 0)).get L.x=some (L.cs { σ with ifs:=σ.ifs + 1 }):=Zam (by rw [Zae,if_neg (by omega)]; exact A1.x)
 simp -dsimp -implicitDefEqProofs only [↓STP,STQ,seval,gx1,gx2,Lk.cs]
 have A2:At p L { σ with ifs:=σ.ifs + 1 } (h1.new (.map (mapO vkV L.es) 0)):=A1.frame (by rw [Zah]; omega) (fun id hi=>by rw [Zae,if_neg (by have:=A1.lt id hi; omega)])
 refine copiedG (w:=L.w) (ver:=verw) (ws:=L.ws) (by rw [Zae,if_neg (by omega)]; exact hw1) (by rw [Zah]; omega) (A2.wsOk hp ok.env) ?_
 rintro h3 acc ⟨va,hva⟩ hn3 hold3 C
 have hvA3:h3.objs h1.next=some (.map (mapO vkV L.es) 0):=by rw [hold3 _ (by rw [Zah]; omega),Zae,if_pos rfl]
 have A3:At p L { σ with ifs:=σ.ifs + 1 } h3:=A2.frame (by omega) (fun id hi=>hold3 id (A2.lt id hi))
 rw [Zah] at hva hn3 hold3
 have C':=C.ids
 rw [Zah] at C'
 have F3:Fr L L h1 h3:=⟨by omega,rfl,fun id hl _=>by rw [hold3 id (by omega),Zae,if_neg (by omega)],fun id hi=>.inl hi⟩
 simp -dsimp -implicitDefEqProofs only [↓STP,STQ,seval,Zah]
 have ok1:TOk p { σ with ifs:=σ.ifs + 1 }:=⟨ok.env,ok.steps,ok.most⟩
 refine ha L { σ with ifs:=σ.ifs + 1 } h3 _ A3 ok1 (by show σ.ifs + 1 ≤ lv + 1; omega) ?_
 cases hr1:Zal p a { σ with ifs:=σ.ifs + 1 } with
 | error er =>
  rw [hr1] at hK
  intro L4 h4 F4
  simp -dsimp -implicitDefEqProofs only [↓STP,STQ,seval]
  exact hK _ _ ((F1.trans F3).trans F4)
 | ok σ1 =>
 rw [hr1,Zau] at hK
 have kp1:=ga _ _ ok1 hr1
 intro L1 h4 A4 F4
 have gx4:=Zam A4.x
 rw [F4.x] at gx4
 have hown:∀ id ∈ L1.own,id < h.next∨(h3.next ≤ id∧id < h4.next):=fun id hi=>(F4.own id hi).elim (fun hh=>.inl (A.lt id hh)) (fun hh=>.inr ⟨hh,A4.lt id hi⟩)
 have keep4:∀ id,h.next ≤ id→id < h3.next→h4.objs id=h3.objs id:=fun id h1' h2'=>F4.same id h2' (fun hi=>by have:=A.lt id hi; omega)
 have hvA4:h4.objs h1.next=some (.map (mapO vkV L.es) 0):=by rw [keep4 _ (by omega) (by omega)]; exact hvA3
 simp -dsimp -implicitDefEqProofs only [↓STP,STQ,seval,gx4,Lk.cs]
 refine cloneG hvA4 ?_
 have nx4:=F4.nx
 have xl4:=Lk.x_lt A4
 rw [F4.x] at xl4
 have hx4:L1.x=L.x:=F4.x
 have gx5:(h4.new (.map (mapO vkV L.es) 0)).get L.x=some (L1.cs σ1):=Zam (by rw [Zae,if_neg (by omega),← hx4]; exact A4.x)
 have st5:=fun ρ m n u=>Zco (ρ:=ρ) (m:=m) (n:=n) (u:=u) (j:=2) (v:=.map h4.next) gx5 (by simp [Lk.cs]) rfl rfl
 generalize hh5:(h4.new (.map (mapO vkV L.es) 0)).set L.x (.cells ((L1.cs σ1).set 2 (.map h4.next)))=h5 at *
 have gx5':h5.get L.x=some ((L1.cs σ1).set 2 (.map h4.next)):=Zam (by rw [← hh5,Zac,if_pos rfl])
 have st6:=fun ρ m n u=>Zco (ρ:=ρ) (m:=m) (n:=n) (u:=u) (j:=3) (v:=.map (h1.next + 1)) gx5' (by simp [Lk.cs]) rfl rfl
 generalize hh6:h5.set L.x (.cells (((L1.cs σ1).set 2 (.map h4.next)).set 3 (.map (h1.next + 1))))=h6 at *
 simp -dsimp -implicitDefEqProofs only [↓STP,STQ,seval,st5,st6]
 have hn6:h6.next=h4.next + 1:=by rw [← hh6,← hh5]; rfl
 have F03:Fr L L h h3:=F1.trans F3
 obtain ⟨A6,F6,o1,o2,o3,o4⟩:=Ztw (acc:=acc) (va:=va) (h6:=h6) A F03 A4 F4 kp1.loops C (by rw [Zah,n1]) (fun id hi hne=>by
   rw [Zae,if_neg (by have:=A1.lt id hi; omega),← hh1,Zac,if_neg hne]) (by rw [← n1]; exact hva) (by omega)
  (by rw [← hh6,Zac,if_pos rfl,n1]; rfl) (by rw [← hh6,Zac,if_neg (by omega),← hh5,Zac,if_neg (by omega),Zae,if_pos rfl]) (fun j hj hne=>by rw [← hh6,Zac,if_neg hne,← hh5,Zac,if_neg hne,Zae,if_neg (by omega)]) hn6
 generalize hL2:(Lk.mk L1.x L1.i L1.s h4.next (h.next + 1) L1.l L.es acc)=L2 at *
 have hx2:L2.x=L.x:=by rw [← hL2]; exact hx4
 have ok6:TOk p { σ1 with env:=σ.env }:=⟨ok.env,kp1.ok.steps,kp1.ok.most⟩
 have hi1:σ1.ifs=σ.ifs + 1:=kp1.ifs
 rw [← hx2]
 refine hb L2 { σ1 with env:=σ.env } h6 _ A6 ok6 (by show σ1.ifs ≤ lv + 1; omega) ?_
 cases hr2:Zal p b { σ1 with env:=σ.env } with
 | error er =>
  rw [hr2] at hK
  intro L4 h7 F7
  simp -dsimp -implicitDefEqProofs only [↓STP,STQ,seval]
  exact hK _ _ (F6.trans F7)
 | ok σ2 =>
 rw [hr2,Zau] at hK
 have kp2:=gb _ _ ok6 hr2
 intro L3 h7 A7 F7
 have hx3:L3.x=L2.x:=F7.x
 have n7:=F7.nx
 have gx7:=Zam A7.x
 rw [hx3] at gx7
 have hi2:σ2.ifs=σ.ifs + 1:=kp2.ifs.trans hi1
 have w2:IntKind.i64.wrap ((σ2.ifs:Int) - 1)=((σ.ifs:Nat):Int):=by rw [wrap_i64] <;> omega
 obtain ⟨A8,F8⟩:=A7.count { σ2 with ifs:=σ.ifs } rfl
 rw [hx3] at A8 F8
 have st8:=fun ρ m n u=>Zco (ρ:=ρ) (m:=m) (n:=n) (u:=u) (j:=7) (v:=I ((σ.ifs:Nat):Int)) gx7 (by simp [Lk.cs]) rfl rfl
 have e8:(L3.cs σ2).set 7 (I ((σ.ifs:Nat):Int))=L3.cs { σ2 with ifs:=σ.ifs }:=rfl
 rw [e8] at st8
 generalize hh8:h7.set L2.x (.cells (L3.cs { σ2 with ifs:=σ.ifs }))=h8 at *
 have n8:h8.next=h7.next:=by rw [← hh8]; rfl
 have old8:∀ id,id < h4.next→id ∉ L2.own→id ≠ L2.x→h8.objs id=h4.objs id:=fun id hl hn hne=>by
  rw [← hh8,Zac,if_neg hne,F7.same id (by omega) hn,← hh6,Zac,if_neg (by rw [← hx2]; exact hne),← hh5,Zac,if_neg (by rw [← hx2]; exact hne),Zae,if_neg (by omega)]
 have hx2m:L2.x ∈ L2.own:=L2.x_mem
 have hvA8:h8.objs h1.next=some (.map (mapO vkV L.es) 0):=by
  rw [old8 _ (by omega) (by rw [n1]; exact o4) (fun e=>o4 (by rw [← n1,e]; exact hx2m))]; exact hvA4
 obtain ⟨ver1,hv4⟩:=A4.v
 have hv8:h8.objs L1.v=some (.map (mapO vkV L1.es) ver1):=by rw [old8 _ (by omega) o1 (fun e=>o1 (e ▸ hx2m))]; exact hv4
 simp -dsimp -implicitDefEqProofs only [↓STP,STQ,seval,gx7,Lk.cs,w2,st8]
 have xl8:=Lk.x_lt A8
 have hm9:(h8.new (.map [] 0)).mapAt h1.next=some (mapO vkV L.es,0):=Zb2 (by rw [Zae,if_neg (by omega)]; exact hvA8)
 rw [Zpa (id:=h1.next) (ver:=0) (es:=mapO vkV L.es) rfl hm9]
 simp -dsimp -implicitDefEqProofs only [↓STP,STQ,seval,Zah]
 obtain ⟨verv8,hv3⟩:=A8.v
 refine Zai (fun k s=>∃ seen acc2 h',k=L.es.length - seen.length∧BothI h1.next h8.next L.es (fun s=>Zm2 (σ1.env.vars s) (σ2.env.vars s)) h8 seen acc2 h' ∧
  s=⟨upd (upd (upd (upd (upd ρ0 0 (.ptr L2.x 0)) 9 (.map L1.v)) 10 (.map L1.w)) 11 (.map h8.next)) 70 (.itr (h8.next + 1)),m0,0,[],h'⟩) (i:=L.es.length)
  ⟨[],[],_,rfl,⟨⟨0,?_⟩,?_,fun j hj=>?_,?_,by simp,by simp,by simp,fun _ _=>rfl,by simp⟩,by simp -dsimp -implicitDefEqProofs only [↓STP,STQ,seval] <;> rfl⟩ ?_ mono
 ·rw [Zae,if_neg (by rw [Zah]; omega),Zae,if_pos rfl]; rfl
 ·rw [Zae,Zah,if_pos rfl]
 ·rw [Zae,Zah,if_neg (by omega),Zae,if_neg (by omega)]
 ·rw [Zah,Zah]
 rintro k s' ⟨seen,acc2,h',rfl,BI,rfl⟩
 have hvA':h'.mapAt h1.next=some (mapO vkV L.es,0):=Zb2 (by rw [BI.old _ (by omega)]; exact hvA8)
 have inx:=BI.nx
 simp -dsimp -implicitDefEqProofs only [↓STP,STQ,seval]
 rw [Zpb (i:=h8.next + 1) (id:=h1.next) (ver:=0) (seen:=seen) (es:=mapO vkV L.es) rfl BI.i hvA']
 refine ⟨fun hall=>?_,fun j kv vv hj hn=>?_⟩
 rotate_left
 ·obtain ⟨s,r,hjw,rfl,rfl⟩:=Zmi hj
  have hjl:j < L.es.length:=(List.getElem?_eq_some_iff.1 hjw).1
  generalize hh'':h'.set (h8.next + 1) (.iter h1.next 0 (j :: seen))=h'' at *
  have i1:h''.objs (h8.next + 1)=some (.iter h1.next 0 (j :: seen)):=by rw [← hh'',Zac,if_pos rfl]
  have old'':∀ j,j < h8.next→h''.objs j=h8.objs j:=fun j hj=>by rw [← hh'',Zac,if_neg (by omega),BI.old j hj]
  have i2:h''.mapAt h1.next=some (mapO vkV L.es,0):=Zb2 (by rw [old'' _ (by omega)]; exact hvA8)
  have g1:h''.objs L1.v=some (.map (mapO vkV L1.es) ver1):=by rw [old'' _ (by omega)]; exact hv8
  have g2:h''.objs L3.v=some (.map (mapO vkV L3.es) verv8):=by rw [old'' _ (by omega)]; exact hv3
  have gx'':h''.get L2.x=some (L3.cs { σ2 with ifs:=σ.ifs }):=Zam (by rw [old'' _ (by omega),← hx3]; exact A8.x)
  obtain ⟨va2,hbo⟩:=BI.m
  have hbo'':h''.objs h8.next=some (.map (mapO vkV acc2) va2):=by rw [← hh'',Zac,if_neg (by omega)]; exact hbo
  have nx'':h''.next=h'.next:=by rw [← hh'']; rfl
  have hf0:=BI.unseen A.esn hjw hn
  have e1:=A4.es s
  have e2:=A8.es s
  have dec:L.es.length - (j :: seen).length < L.es.length - seen.length:=by
   have:=Ziz (n:=L.es.length) (l:=j :: seen) (List.nodup_cons.2 ⟨hn,BI.sn⟩) (fun i hi=>(List.mem_cons.1 hi).elim (fun e=>e ▸ hjl) (BI.sl i))
   simp only [List.length_cons] at this ⊢
   omega
  simp -dsimp -implicitDefEqProofs only [↓STP,STQ,seval]
  rw [Zpc (i:=h8.next + 1) (id:=h1.next) (ver:=0) (seen:=seen) (es:=mapO vkV L.es) (j:=j) rfl i1 i2 hj]
  have stay:∀ {f:ByteArray→Option (Int × Nat)},f=(fun s=>Zm2 (σ1.env.vars s) (σ2.env.vars s))→f s=none→BothI h1.next h8.next L.es f h8 (j :: seen) acc2 h'':=fun {f} hf hs=>by
   subst hf
   refine BI.step A.esn hjw hn ⟨va2,hbo''⟩ i1 (fun i hi=>by rw [old'' i hi,BI.old i hi]) nx'' (fun t=>?_) BI.kn
   by_cases c:t=s
   ·rw [if_pos c,c,hf0]; exact hs.symm
   ·rw [if_neg c]
  cases c1:Zaj s L1.es with
  | none =>
   rw [c1] at e1
   cases c2:Zaj s L3.es with
   | none =>
    rw [c2] at e2
    simp -dsimp -implicitDefEqProofs only [↓STP,STQ,seval,gx'',Lk.cs,Zaw g1,Zaw g2,c1,c2,Za8,getD_some,Za7,Za2,Zap,Zat,Zad]
    exact ⟨_,dec,j :: seen,acc2,h'',rfl,stay rfl (by show Zm2 _ _=none; rw [← e1]; rfl),rfl⟩
   | some r2 =>
    rw [c2] at e2
    simp -dsimp -implicitDefEqProofs only [↓STP,STQ,seval,gx'',Lk.cs,Zaw g1,Zaw g2,c1,c2,Za8,getD_some,Za7,Za2,Zap,Zat,Zad,vkV,Zab]
    exact ⟨_,dec,j :: seen,acc2,h'',rfl,stay rfl (by show Zm2 _ _=none; rw [← e1]; rfl),rfl⟩
  | some r1 =>
   rw [c1] at e1
   cases c2:Zaj s L3.es with
   | none =>
    rw [c2] at e2
    simp -dsimp -implicitDefEqProofs only [↓STP,STQ,seval,gx'',Lk.cs,Zaw g1,Zaw g2,c1,c2,Za8,getD_some,Za7,Za2,Zap,Zat,Zad,vkV,Zab]
    exact ⟨_,dec,j :: seen,acc2,h'',rfl,stay rfl (by show Zm2 _ _=none; rw [← e1,show σ2.env.vars s=none from e2.symm]; rfl),rfl⟩
   | some r2 =>
    rw [c2] at e2
    obtain ⟨k1,w1'⟩:=r1
    obtain ⟨k2,w2'⟩:=r2
    have hb1:Zm2 (σ1.env.vars s) (σ2.env.vars s)=if k1=k2 then some (k1,max w1' w2') else none:=by rw [← e1,show σ2.env.vars s=some (k2,w2') from e2.symm]; rfl
    by_cases ck:k1=k2
    ·rw [if_pos ck] at hb1
     have hmx:(if (w2':Int) > (w1':Int) then (w2':Int) else (w1':Int))=((max w1' w2':Nat):Int):=by split <;> omega
     obtain ⟨ver',hup⟩:=Zii (f:=vkV) (s:=s) (v:=(k1,max w1' w2')) hbo''
     rw [show vkV (k1,max w1' w2')=V.agg [I k1,I ((max w1' w2':Nat):Int),.bool false,.int .u64 0] from rfl] at hup
     simp -dsimp -implicitDefEqProofs only [↓STP,STQ,seval,gx'',Lk.cs,Zaw g1,Zaw g2,c1,c2,Za8,getD_some,Za7,Za2,Zap,Zat,Zad,vkV,Zab,eq_true ck,Za1,hmx,hup]
     refine ⟨_,dec,j :: seen,setE s (k1,max w1' w2') acc2,_,rfl,BI.step A.esn hjw hn ⟨ver',by rw [Zac,if_pos rfl]⟩ (by rw [Zac,if_neg (by omega)]; exact i1) (fun i hi=>by rw [Zac,if_neg (by omega),old'' i hi,BI.old i hi]) (by rw [Zbd]; exact nx'') (fun t=>?_) (Zk4 BI.kn),rfl⟩
     rw [Zh4,hb1]
    ·rw [if_neg ck] at hb1
     simp -dsimp -implicitDefEqProofs only [↓STP,STQ,seval,gx'',Lk.cs,Zaw g1,Zaw g2,c1,c2,Za8,getD_some,Za7,Za2,Zap,Zat,Zad,vkV,Zab,eq_false ck]
     exact ⟨_,dec,j :: seen,acc2,h'',rfl,stay rfl hb1,rfl⟩
 have A10:At p L3 { σ2 with ifs:=σ.ifs } h':=A8.frame (by omega) (fun id hi=>BI.old id (A8.lt id hi))
 have gx10:h'.get L2.x=some (L3.cs { σ2 with ifs:=σ.ifs }):=by rw [← hx3]; exact Zam A10.x
 have hvars:∀ s,Zaj s acc2=Zex σ.env.vars σ1.env.vars σ2.env.vars s:=by
  intro s
  unfold Zex
  have hs:=A.es s
  cases hc:σ.env.vars s with
  | none =>
   rw [hc] at hs
   refine BI.no s fun ⟨j,r,_,hj⟩=>?_
   rw [Zbu A.esn (List.mem_of_getElem? hj)] at hs
   cases hs
  | some q =>
   rw [hc] at hs
   obtain ⟨j,hj⟩:=List.mem_iff_getElem?.1 (Zbr hs)
   exact BI.yes s ⟨j,q,hall j (by rw [Zmh]; exact (List.getElem?_eq_some_iff.1 hj).1),hj⟩
 have st10:=fun ρ m n u=>Zco (ρ:=ρ) (m:=m) (n:=n) (u:=u) (j:=2) (v:=.map h8.next) gx10 (by simp [Lk.cs]) rfl rfl
 generalize hh11:h'.set L2.x (.cells ((L3.cs { σ2 with ifs:=σ.ifs }).set 2 (.map h8.next)))=h11 at *
 have nx11:h11.next=h'.next:=by rw [← hh11]; rfl
 have ch11:Chg h' h11 L3.x:=by rw [← hh11,hx3]; exact Zm0
 have A11:=A10.newVars (bo:=h8.next) (h':=h11) (es':=acc2) (fun hi=>by have:=A8.lt _ hi; omega) (by omega) BI.m (by rw [hx3,← hh11,Zac,if_pos rfl]; rfl) ch11 hvars BI.kn
 have F11:Fr L2 { L3 with v:=h8.next,es:=acc2 } h6 h11:=by
  refine (F7.trans F8).trans ⟨by omega,rfl,fun id hl hn=>?_,fun id hi=>?_⟩
  ·rw [ch11.same id (fun e=>hn (by rw [e]; exact L3.x_mem)),BI.old id hl]
  ·simp only [Lk.own,List.cons_append,List.nil_append,List.mem_cons] at hi ⊢
   rcases hi with e | e | e | e | e | e | e
   ·exact .inl (.inl e)
   ·exact .inl (.inr (.inl e))
   ·exact .inl (.inr (.inr (.inl e)))
   ·exact .inr (by omega)
   ·exact .inl (.inr (.inr (.inr (.inr (.inl e)))))
   ·exact .inl (.inr (.inr (.inr (.inr (.inr (.inl e))))))
   ·exact .inl (.inr (.inr (.inr (.inr (.inr (.inr e))))))
 have gx11:h11.get L2.x=some ((L3.cs { σ2 with ifs:=σ.ifs }).set 2 (.map h8.next)):=Zam (by rw [← hh11,Zac,if_pos rfl])
 obtain ⟨verw3,hw3⟩:=A11.w
 simp only at hw3
 have hwm:h11.mapAt L3.w=some (mapO refV L3.ws,verw3):=Zb2 hw3
 have hw3l:L3.w < h11.next:=by omega
 simp -dsimp -implicitDefEqProofs only [↓STP,STQ,seval,st10,gx11,Lk.cs,List.set_cons_succ,List.set_cons_zero]
 rw [Zpa (id:=L3.w) (ver:=verw3) (es:=mapO refV L3.ws) rfl hwm]
 simp -dsimp -implicitDefEqProofs only [↓STP,STQ,seval]
 obtain ⟨verw1,hw4⟩:=A4.w
 have hold11:∀ id,id < h4.next→id ∉ L2.own→id ≠ L2.x→h11.objs id=h4.objs id:=fun id hl hn hne=>by
  rw [ch11.same id (by rw [hx3]; exact hne),BI.old id (by omega),old8 id hl hn hne]
 have hw11:h11.objs L1.w=some (.map (mapO refV L1.ws) verw1):=by rw [hold11 _ (by omega) o2 (fun e=>o2 (e ▸ hx2m))]; exact hw4
 have own3:∀ r ∈ L3.ws,r.2.1 ∈ L3.own:=fun r hr=>List.mem_append_right _ (List.mem_map.2 ⟨r,hr,rfl⟩)
 have lt3:∀ r ∈ L3.ws,r.2.1 < h7.next:=fun r hr=>A7.lt _ (own3 r hr)
 have dist3:=Lk.dist A7.nd
 have far:∀ id,id < h4.next→id ∉ L2.own→∀ r ∈ L3.ws,r.2.1 ≠ id:=fun id hl hn r hr e=>by
  rcases F7.own _ (own3 r hr) with hh | hh
  ·exact hn (e ▸ hh)
  ·omega
 refine Zai (fun k s=>∃ seen h',k=L3.ws.length - seen.length∧WordI p σ1.env.words σ2.env.words L3.ws L3.w verw3 h11 seen h' ∧
  s=⟨upd (upd ρ0 10 (.map L1.w)) 119 (.itr h11.next),m0,0,[],h'⟩) (i:=L3.ws.length)
  ⟨[],_,rfl,⟨?_,fun j hj _=>?_,?_,by simp,by simp,by simp,fun j r hj _=>?_⟩,by simp -dsimp -implicitDefEqProofs only [↓STP,STQ,seval] <;> rfl⟩ ?_ mono
 ·rw [Zae,if_pos rfl]
 ·rw [Zae,if_neg (by omega)]
 ·rw [Zah]
 ·obtain ⟨_,_,_,_,_,hc⟩:=A11.wordR hp (r:=r) (List.mem_of_getElem? hj)
  rw [Zae,if_neg (by have:=lt3 r (List.mem_of_getElem? hj); omega)]
  exact hc
 rintro k s' ⟨seen2,h12,rfl,WI,rfl⟩
 have hwm12:h12.mapAt L3.w=some (mapO refV L3.ws,verw3):=Zb2 (by rw [WI.old _ hw3l (fun r hr e=>dist3.2.2.2.2.1.2 (by rw [← e]; exact List.mem_map.2 ⟨r,hr,rfl⟩))]; exact hw3)
 simp -dsimp -implicitDefEqProofs only [↓STP,STQ,seval]
 rw [Zpb (i:=h11.next) (id:=L3.w) (ver:=verw3) (seen:=seen2) (es:=mapO refV L3.ws) rfl WI.i hwm12]
 refine ⟨fun hall2=>?_,fun j kv vv hj hn=>?_⟩
 ·-- the end
  simp -dsimp -implicitDefEqProofs only [↓STP,STQ,seval]
  have dist4:=Lk.dist A11.nd
  have own4:∀ r ∈ L3.ws,r.2.1 ∈ Lk.own { L3 with v:=h8.next,es:=acc2 }:=fun r hr=>List.mem_append_right _ (List.mem_map.2 ⟨r,hr,rfl⟩)
  have xl11:=Lk.x_lt A11
  have nws:∀ {id},id ∉ L3.ws.map (fun r=>r.2.1)→∀ r ∈ L3.ws,r.2.1 ≠ id:=fun hn r hr e=>hn (by rw [← e]; exact List.mem_map.2 ⟨r,hr,rfl⟩)
  have A12:=A11.newWords (h':=h12) (words':=maxW σ2.env.words σ1.env.words) (by rw [WI.nx]; omega) (fun id hid=>by
   refine WI.old id ?_ ?_
   ·simp only [List.mem_cons,List.not_mem_nil,or_false] at hid
    rcases hid with rfl | rfl | rfl | rfl | rfl | rfl
    ·exact xl11.1
    ·exact xl11.2.1
    ·exact xl11.2.2.1
    ·exact xl11.2.2.2.1
    ·exact xl11.2.2.2.2.1
    ·exact xl11.2.2.2.2.2
   ·simp only [List.mem_cons,List.not_mem_nil,or_false] at hid
    rcases hid with rfl | rfl | rfl | rfl | rfl | rfl
    ·exact nws dist4.1.2.2.2.2.2
    ·exact nws dist4.2.1.2.2.2.2
    ·exact nws dist4.2.2.1.2.2.2
    ·exact nws dist4.2.2.2.1.2.2
    ·exact nws dist4.2.2.2.2.1.2
    ·exact nws dist4.2.2.2.2.2.1) (fun i d hd=>by
   obtain ⟨id,q1,q2,q3⟩:=A11.wordOf hp hd
   obtain ⟨id1,q4,q5,q6⟩:=A4.wordOf hp hd
   simp only at q1 q2 q3
   obtain ⟨j,hj⟩:=List.mem_iff_getElem?.1 (Zbr q2)
   have hy:=WI.yes j _ hj (hall2 j (by rw [Zmh]; exact (List.getElem?_eq_some_iff.1 hj).1))
   simp only at hy
   have l1:=Zri hp kp1.ok.env hd
   have l2:=Zri hp kp2.ok.env hd
   refine ⟨id,List.zipWith max (cw p σ2.env.words d.name) (cw p σ1.env.words d.name),?_,?_,hy⟩
   ·unfold maxW
    rw [List.getElem?_zipWith,q1,q4]
   ·rw [List.length_zipWith,show min (cw p σ2.env.words d.name).length (cw p σ1.env.words d.name).length=(cw p σ2.env.words d.name).length by omega]
    exact q2)
  have F12:Fr { L3 with v:=h8.next,es:=acc2 } { L3 with v:=h8.next,es:=acc2 } h11 h12:=
   ⟨by rw [WI.nx]; omega,rfl,fun id hl hn=>WI.old id hl (fun r hr e=>hn (e ▸ own4 r hr)),fun id hi=>.inl hi⟩
  have hl2:σ2.env.loops=σ.env.loops:=kp2.loops
  refine hK _ _ ?_ (F6.trans (F11.trans F12))
  have A12':At p { L3 with v:=h8.next,es:=acc2 } { σ2 with ifs:=σ.ifs,env:={ vars:=Zex σ.env.vars σ1.env.vars σ2.env.vars,loops:=σ2.env.loops,words:=maxW σ2.env.words σ1.env.words } } h12:=A12
  rw [hl2] at A12'
  exact A12'
 ·obtain ⟨s,⟨id,len⟩,hjw,rfl,rfl⟩:=Zmi hj
  have hr:(s,id,len) ∈ L3.ws:=List.mem_of_getElem? hjw
  have hjl:j < L3.ws.length:=(List.getElem?_eq_some_iff.1 hjw).1
  obtain ⟨i0,d,hd,hnm,hlen,hc11⟩:=A11.wordR hp (r:=(s,id,len)) hr
  simp only at hnm hlen hc11
  obtain ⟨id1,q4,q5,q6⟩:=A4.wordOf hp hd
  have l1:=Zri hp kp1.ok.env hd
  have l2:=Zri hp kp2.ok.env hd
  have hds:=hp.ars d (List.mem_of_getElem? hd)
  rw [hnm] at q4 q5 q6 l1 l2
  have hcur:=WI.no j _ hjw hn
  simp only at hcur
  generalize hav:cw p σ2.env.words s=av at *
  generalize hbv:cw p σ1.env.words s=bv at *
  have hab:av.length=bv.length:=by omega
  have hid1:id1 < h4.next∧id1 ∉ L2.own:=⟨A4.lt _ (A4.ws_own q5).1,o3 _ (Zbr q5)⟩
  have ne1:id ≠ id1:=far id1 hid1.1 hid1.2 _ hr
  have ne2:id ≠ L1.w:=far L1.w (by omega) o2 _ hr
  have id1':h12.objs id1=some (.cells (Zar bv)):=by
   rw [WI.old id1 (by omega) (far id1 hid1.1 hid1.2),hold11 id1 hid1.1 hid1.2 (fun e=>hid1.2 (e ▸ hx2m))]; exact q6
  have w1':h12.objs L1.w=some (.map (mapO refV L1.ws) verw1):=by rw [WI.old L1.w (by omega) (far L1.w (by omega) o2)]; exact hw11
  have hidl:=lt3 _ hr
  simp only at hidl
  generalize hh13:h12.set h11.next (.iter L3.w verw3 (j :: seen2))=h13 at *
  have i13:h13.objs h11.next=some (.iter L3.w verw3 (j :: seen2)):=by rw [← hh13,Zac,if_pos rfl]
  have old13:∀ j,j ≠ h11.next→h13.objs j=h12.objs j:=fun j hj=>by rw [← hh13,Zac,if_neg hj]
  have m13:h13.mapAt L3.w=some (mapO refV L3.ws,verw3):=by
   have:=old13 L3.w (by omega)
   unfold H.mapAt at hwm12 ⊢
   rw [this]; exact hwm12
  have c13:h13.objs id=some (.cells (Zar av)):=by rw [old13 _ (by omega)]; exact hcur
  simp -dsimp -implicitDefEqProofs only [↓STP,STQ,seval]
  rw [Zpc (i:=h11.next) (id:=L3.w) (ver:=verw3) (seen:=seen2) (es:=mapO refV L3.ws) (j:=j) rfl i13 m13 hj]
  simp -dsimp -implicitDefEqProofs only [↓STP,STQ,seval,refV]
  refine Zao (N:=len) (fun i=>⟨upd (upd (upd (upd (upd (upd ρ0 10 (.map L1.w)) 17 (.str s)) 18 (.ref id 0 len 1)) 119 (.itr h11.next)) 126 (I len)) 127 (I i),m0,0,[],h13.set id (.cells (Zar (half av bv i)))⟩) (fun _=>True)
   (by rw [Znt,H.set_same c13]; simp -dsimp -implicitDefEqProofs only [↓STP,STQ,seval] <;> rfl) trivial (fun i hi _=>?_) (fun _=>?_) mono
  ·have hia:i < av.length:=by omega
   have gi:(h13.set id (.cells (Zar (half av bv i)))).get id=some (Zar (half av bv i)):=Zju
   have g1:(h13.set id (.cells (Zar (half av bv i)))).get id1=some (Zar bv):=Zam (by rw [Zac,if_neg ne1.symm,old13 _ (by omega)]; exact id1')
   have gw:(h13.set id (.cells (Zar (half av bv i)))).objs L1.w=some (.map (mapO refV L1.ws) verw1):=by rw [Zac,if_neg ne2.symm,old13 _ (by omega)]; exact w1'
   have hl0:((i:Nat):Int) < ((len:Nat):Int):=by omega
   have hl1:((i:Nat):Int) < ((bv.length:Nat):Int):=by omega
   have t1:=Zcr (ws:=half av bv i) (n:=i) (by rw [Zi1 hab (by omega)]; exact hia)
   rw [Zrc hab hia] at t1
   have t2:=Zcr (ws:=bv) (n:=i) (by omega)
   have wI:=wiM (show i < 9223372036854775807 by omega)
   have hmx:(if ((bv.getD i 0:Nat):Int) > ((av.getD i 0:Nat):Int) then ((bv.getD i 0:Nat):Int) else ((av.getD i 0:Nat):Int))=((max (av.getD i 0) (bv.getD i 0):Nat):Int):=by split <;> omega
   have stw:=fun ρ m n u=>Zco (ρ:=ρ) (m:=m) (n:=n) (u:=u) (j:=i) (v:=I ((max (av.getD i 0) (bv.getD i 0):Nat):Int)) gi (by rw [Zbq,Zi1 hab (by omega)]; exact hia) rfl rfl
   rw [Zg6,Zfw,Zrb hab hia] at stw
   simp -dsimp -implicitDefEqProofs only [↓STP,STQ,seval,eq_true hl0,gi,t1,Zh0 gw,q5,Za2,getD_some,refV,eq_true hl1,g1,t2,Za1,hmx,stw,wI,Nat.mul_one]
  ·simp -dsimp -implicitDefEqProofs only [↓STP,STQ,seval,Int.lt_irrefl]
   have hfin:half av bv len=List.zipWith max av bv:=by rw [hlen,Zrd hab]
   rw [hfin]
   have dec:L3.ws.length - (j :: seen2).length < L3.ws.length - seen2.length:=by
    have:=Ziz (n:=L3.ws.length) (l:=j :: seen2) (List.nodup_cons.2 ⟨hn,WI.sn⟩) (fun i hi=>(List.mem_cons.1 hi).elim (fun e=>e ▸ hjl) (WI.sl i))
    simp only [List.length_cons] at this ⊢
    omega
   have inj:∀ (i:Nat) (r:ByteArray × Nat × Nat),L3.ws[i]?=some r→r.2.1=id→i=j:=fun i r hi e=>Zgs (f:=fun r:ByteArray × Nat × Nat=>r.2.1) dist3.2.2.2.2.2.2 hi hjw e
   refine ⟨_,dec,j :: seen2,_,rfl,⟨?_,fun i hi hne=>?_,?_,List.nodup_cons.2 ⟨hn,WI.sn⟩,fun i hi=>(List.mem_cons.1 hi).elim (fun e=>e ▸ hjl) (WI.sl i),fun i r hi hs=>?_,fun i r hi hs=>?_⟩,rfl⟩
   ·rw [Zac,if_neg (by omega)]; exact i13
   ·rw [Zac,if_neg (fun e=>hne _ hr e.symm),old13 i (by omega)]
    exact WI.old i hi hne
   ·rw [Zbd,← hh13,Zbd]; exact WI.nx
   ·by_cases c:i=j
    ·subst c
     rw [hjw] at hi; cases hi
     rw [Zac,if_pos rfl,hav,hbv]
    ·have hne:r.2.1 ≠ id:=fun e=>c (inj i r hi e)
     have hlt:=lt3 r (List.mem_of_getElem? hi)
     rw [Zac,if_neg hne,old13 _ (by omega)]
     exact WI.yes i r hi ((List.mem_cons.1 hs).resolve_left c)
   ·have c:i ≠ j:=fun e=>hs (e ▸ List.mem_cons_self)
    have hne:r.2.1 ≠ id:=fun e=>c (inj i r hi e)
    have hlt:=lt3 r (List.mem_of_getElem? hi)
    rw [Zac,if_neg hne,old13 _ (by omega)]
    exact WI.no i r hi (fun h=>hs (List.mem_cons_of_mem _ h))
end
end YtihjhelbdbeokaaGreatDoor
end Go.Ab
