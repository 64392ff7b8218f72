/- Part of a proof:  -/
import Derived.Test.YtihjhelbdbeokaaGreatDoorQ3
import Derived.Test.YtihjhelbdbeokaaGreatDoorQ5
set_option linter.unusedVariables false
set_option maxRecDepth 100000
namespace Go.Ab.YtihjhelbdbeokaaGreatDoor
def irs:List (Nat × IFn):=[(5,ir5),(11,ir11),(16,ir16),(17,ir17),(18,ir18),(19,ir19),(20,ir20),(21,ir21),(22,ir22),(24,ir24),(25,ir25),(26,ir26),(27,ir27),(28,ir28),(29,ir29),(30,ir30),(31,ir31),(33,ir33),(34,ir34),(37,ir37),(39,ir39),(40,ir40),(41,ir41),(42,ir42),(43,ir43),(44,ir44),(45,ir45),(46,ir46),(47,ir47),(48,ir48),(49,ir49),(50,ir50),(54,ir54),(59,ir59),(61,ir61),(62,ir62),(63,ir63),(64,ir64),(65,ir65),(66,ir66),(67,ir67),(68,ir68),(69,ir69),(70,ir70),(71,ir71),(72,ir72),(73,ir73),(74,ir74),(75,ir75),(76,ir76),(77,ir77),(78,ir78),(79,ir79),(80,ir80),(81,ir81),(82,ir82),(83,ir83),(84,ir84),(85,ir85),(86,ir86),(95,ir95),(96,ir96),(97,ir97),(98,ir98),(99,ir99),(100,ir100),(101,ir101),(102,ir102),(103,ir103),(104,ir104),(105,ir105),(106,ir106),(107,ir107),(108,ir108),(109,ir109),(110,ir110),(119,ir119),(120,ir120),(121,ir121),(122,ir122),(123,ir123),(124,ir124),(125,ir125),(126,ir126),(127,ir127),(128,ir128),(129,ir129),(130,ir130),(131,ir131),(132,ir132),(133,ir133),(134,ir134),(135,ir135),(136,ir136),(137,ir137),(146,ir146),(147,ir147),(148,ir148),(149,ir149),(150,ir150),(151,ir151),(152,ir152),(153,ir153),(154,ir154),(156,ir156),(157,ir157),(158,ir158),(159,ir159),(160,ir160),(161,ir161),(162,ir162),(163,ir163),(164,ir164),(177,ir177),(178,ir178),(179,ir179),(180,ir180),(181,ir181),(182,ir182),(183,ir183),(184,ir184),(185,ir185),(186,ir186),(187,ir187),(188,ir188),(190,ir190),(191,ir191),(192,ir192),(193,ir193),(198,ir198),(199,ir199),(200,ir200),(201,ir201),(202,ir202),(203,ir203),(204,ir204),(205,ir205),(206,ir206),(207,ir207),(208,ir208),(209,ir209),(210,ir210),(211,ir211),(212,ir212),(213,ir213),(214,ir214),(215,ir215),(216,ir216),(218,ir218),(219,ir219),(220,ir220),(221,ir221),(222,ir222)]
def env:Env:=⟨fun f=>(irs.find? (·.1 == f)).map (·.2),exts⟩
abbrev R:Zas:=Runs env
theorem ext2:ExtOK2 env:={ le:=exts_le,cont:=Zwk }
theorem mono:Zb8 R:=Zcw ext2.toExtOK
def Good (x : Nat × IFn) : Prop := ∃ fn hs, Go.Proofs.Tryz.prog.funcs[x.1]? = some fn ∧ fn.name ≠ "runtime.NumGoroutine" ∧ trF Go.Proofs.Tryz.prog hs fn = some x.2 ∧ hs.glob = Zgv
theorem gd {n:Nat} {fn:Func} {F:IFn} {hs:Hints} (a:Go.Proofs.Tryz.prog.funcs[n]?=some fn) (t:trF Go.Proofs.Tryz.prog hs fn=some F) (b:fn.name ≠ "runtime.NumGoroutine":=by decide +kernel) (c:hs.glob=Zgv:=by rfl):Good (n,F):=⟨fn,hs,a,b,t,c⟩
theorem goods:∀ x ∈ irs,Good x:=by
 intro x hx
 simp only [irs,List.mem_cons,List.not_mem_nil,or_false] at hx
 rcases hx with rfl | rfl | rfl | rfl | rfl | rfl | rfl | rfl | rfl | rfl | rfl | rfl | rfl | rfl | rfl | rfl | rfl | rfl | rfl | rfl | rfl | rfl | rfl | rfl | rfl | rfl | rfl | rfl | rfl | rfl | rfl | rfl | rfl | rfl | rfl | rfl | rfl | rfl | rfl | rfl | rfl | rfl | rfl | rfl | rfl | rfl | rfl | rfl | rfl | rfl | rfl | rfl | rfl | rfl | rfl | rfl | rfl | rfl | rfl | rfl | rfl | rfl | rfl | rfl | rfl | rfl | rfl | rfl | rfl | rfl | rfl | rfl | rfl | rfl | rfl | rfl | rfl | rfl | rfl | rfl | rfl | rfl | rfl | rfl | rfl | rfl | rfl | rfl | rfl | rfl | rfl | rfl | rfl | rfl | rfl | rfl | rfl | rfl | rfl | rfl | rfl | rfl | rfl | rfl | rfl | rfl | rfl | rfl | rfl | rfl | rfl | rfl | rfl | rfl | rfl | rfl | rfl | rfl | rfl | rfl | rfl | rfl | rfl | rfl | rfl | rfl | rfl | rfl | rfl | rfl | rfl | rfl | rfl | rfl | rfl | rfl | rfl | rfl | rfl | rfl | rfl | rfl | rfl | rfl | rfl | rfl | rfl | rfl | rfl | rfl | rfl | rfl | rfl
 ·exact gd Go.Proofs.Tryz.func5 tr5
 ·exact gd Go.Proofs.Tryz.func11 tr11
 ·exact gd Go.Proofs.Tryz.func16 tr16
 ·exact gd Go.Proofs.Tryz.func17 tr17
 ·exact gd Go.Proofs.Tryz.func18 tr18
 ·exact gd Go.Proofs.Tryz.func19 tr19
 ·exact gd Go.Proofs.Tryz.func20 tr20
 ·exact gd Go.Proofs.Tryz.func21 tr21
 ·exact gd Go.Proofs.Tryz.func22 tr22
 ·exact gd Go.Proofs.Tryz.func24 tr24
 ·exact gd Go.Proofs.Tryz.func25 tr25
 ·exact gd Go.Proofs.Tryz.func26 tr26
 ·exact gd Go.Proofs.Tryz.func27 tr27
 ·exact gd Go.Proofs.Tryz.func28 tr28
 ·exact gd Go.Proofs.Tryz.func29 tr29
 ·exact gd Go.Proofs.Tryz.func30 tr30
 ·exact gd Go.Proofs.Tryz.func31 tr31
 ·exact gd Go.Proofs.Tryz.func33 tr33
 ·exact gd Go.Proofs.Tryz.func34 tr34
 ·exact gd Go.Proofs.Tryz.func37 tr37
 ·exact gd Go.Proofs.Tryz.func39 tr39
 ·exact gd Go.Proofs.Tryz.func40 tr40
 ·exact gd Go.Proofs.Tryz.func41 tr41
 ·exact gd Go.Proofs.Tryz.func42 tr42
 ·exact gd Go.Proofs.Tryz.func43 tr43
 ·exact gd Go.Proofs.Tryz.func44 tr44
 ·exact gd Go.Proofs.Tryz.func45 tr45
 ·exact gd Go.Proofs.Tryz.func46 tr46
 ·exact gd Go.Proofs.Tryz.func47 tr47
 ·exact gd Go.Proofs.Tryz.func48 tr48
 ·exact gd Go.Proofs.Tryz.func49 tr49
 ·exact gd Go.Proofs.Tryz.func50 tr50
 ·exact gd Go.Proofs.Tryz.func54 tr54
 ·exact gd Go.Proofs.Tryz.func59 tr59
 ·exact gd Go.Proofs.Tryz.func61 tr61
 ·exact gd Go.Proofs.Tryz.func62 tr62
 ·exact gd Go.Proofs.Tryz.func63 tr63
 ·exact gd Go.Proofs.Tryz.func64 tr64
 ·exact gd Go.Proofs.Tryz.func65 tr65
 ·exact gd Go.Proofs.Tryz.func66 tr66
 ·exact gd Go.Proofs.Tryz.func67 tr67
 ·exact gd Go.Proofs.Tryz.func68 tr68
 ·exact gd Go.Proofs.Tryz.func69 tr69
 ·exact gd Go.Proofs.Tryz.func70 tr70
 ·exact gd Go.Proofs.Tryz.func71 tr71
 ·exact gd Go.Proofs.Tryz.func72 tr72
 ·exact gd Go.Proofs.Tryz.func73 tr73
 ·exact gd Go.Proofs.Tryz.func74 tr74
 ·exact gd Go.Proofs.Tryz.func75 tr75
 ·exact gd Go.Proofs.Tryz.func76 tr76
 ·exact gd Go.Proofs.Tryz.func77 tr77
 ·exact gd Go.Proofs.Tryz.func78 tr78
 ·exact gd Go.Proofs.Tryz.func79 tr79
 ·exact gd Go.Proofs.Tryz.func80 tr80
 ·exact gd Go.Proofs.Tryz.func81 tr81
 ·exact gd Go.Proofs.Tryz.func82 tr82
 ·exact gd Go.Proofs.Tryz.func83 tr83
 ·exact gd Go.Proofs.Tryz.func84 tr84
 ·exact gd Go.Proofs.Tryz.func85 tr85
 ·exact gd Go.Proofs.Tryz.func86 tr86
 ·exact gd Go.Proofs.Tryz.func95 tr95
 ·exact gd Go.Proofs.Tryz.func96 tr96
 ·exact gd Go.Proofs.Tryz.func97 tr97
 ·exact gd Go.Proofs.Tryz.func98 tr98
 ·exact gd Go.Proofs.Tryz.func99 tr99
 ·exact gd Go.Proofs.Tryz.func100 tr100
 ·exact gd Go.Proofs.Tryz.func101 tr101
 ·exact gd Go.Proofs.Tryz.func102 tr102
 ·exact gd Go.Proofs.Tryz.func103 tr103
 ·exact gd Go.Proofs.Tryz.func104 tr104
 ·exact gd Go.Proofs.Tryz.func105 tr105
 ·exact gd Go.Proofs.Tryz.func106 tr106
 ·exact gd Go.Proofs.Tryz.func107 tr107
 ·exact gd Go.Proofs.Tryz.func108 tr108
 ·exact gd Go.Proofs.Tryz.func109 tr109
 ·exact gd Go.Proofs.Tryz.func110 tr110
 ·exact gd Go.Proofs.Tryz.func119 tr119
 ·exact gd Go.Proofs.Tryz.func120 tr120
 ·exact gd Go.Proofs.Tryz.func121 tr121
 ·exact gd Go.Proofs.Tryz.func122 tr122
 ·exact gd Go.Proofs.Tryz.func123 tr123
 ·exact gd Go.Proofs.Tryz.func124 tr124
 ·exact gd Go.Proofs.Tryz.func125 tr125
 ·exact gd Go.Proofs.Tryz.func126 tr126
 ·exact gd Go.Proofs.Tryz.func127 tr127
 ·exact gd Go.Proofs.Tryz.func128 tr128
 ·exact gd Go.Proofs.Tryz.func129 tr129
 ·exact gd Go.Proofs.Tryz.func130 tr130
 ·exact gd Go.Proofs.Tryz.func131 tr131
 ·exact gd Go.Proofs.Tryz.func132 tr132
 ·exact gd Go.Proofs.Tryz.func133 tr133
 ·exact gd Go.Proofs.Tryz.func134 tr134
 ·exact gd Go.Proofs.Tryz.func135 tr135
 ·exact gd Go.Proofs.Tryz.func136 tr136
 ·exact gd Go.Proofs.Tryz.func137 tr137
 ·exact gd Go.Proofs.Tryz.func146 tr146
 ·exact gd Go.Proofs.Tryz.func147 tr147
 ·exact gd Go.Proofs.Tryz.func148 tr148
 ·exact gd Go.Proofs.Tryz.func149 tr149
 ·exact gd Go.Proofs.Tryz.func150 tr150
 ·exact gd Go.Proofs.Tryz.func151 tr151
 ·exact gd Go.Proofs.Tryz.func152 tr152
 ·exact gd Go.Proofs.Tryz.func153 tr153
 ·exact gd Go.Proofs.Tryz.func154 tr154
 ·exact gd Go.Proofs.Tryz.func156 tr156
 ·exact gd Go.Proofs.Tryz.func157 tr157
 ·exact gd Go.Proofs.Tryz.func158 tr158
 ·exact gd Go.Proofs.Tryz.func159 tr159
 ·exact gd Go.Proofs.Tryz.func160 tr160
 ·exact gd Go.Proofs.Tryz.func161 tr161
 ·exact gd Go.Proofs.Tryz.func162 tr162
 ·exact gd Go.Proofs.Tryz.func163 tr163
 ·exact gd Go.Proofs.Tryz.func164 tr164
 ·exact gd Go.Proofs.Tryz.func177 tr177
 ·exact gd Go.Proofs.Tryz.func178 tr178
 ·exact gd Go.Proofs.Tryz.func179 tr179
 ·exact gd Go.Proofs.Tryz.func180 tr180
 ·exact gd Go.Proofs.Tryz.func181 tr181
 ·exact gd Go.Proofs.Tryz.func182 tr182
 ·exact gd Go.Proofs.Tryz.func183 tr183
 ·exact gd Go.Proofs.Tryz.func184 tr184
 ·exact gd Go.Proofs.Tryz.func185 tr185
 ·exact gd Go.Proofs.Tryz.func186 tr186
 ·exact gd Go.Proofs.Tryz.func187 tr187
 ·exact gd Go.Proofs.Tryz.func188 tr188
 ·exact gd Go.Proofs.Tryz.func190 tr190
 ·exact gd Go.Proofs.Tryz.func191 tr191
 ·exact gd Go.Proofs.Tryz.func192 tr192
 ·exact gd Go.Proofs.Tryz.func193 tr193
 ·exact gd Go.Proofs.Tryz.func198 tr198
 ·exact gd Go.Proofs.Tryz.func199 tr199
 ·exact gd Go.Proofs.Tryz.func200 tr200
 ·exact gd Go.Proofs.Tryz.func201 tr201
 ·exact gd Go.Proofs.Tryz.func202 tr202
 ·exact gd Go.Proofs.Tryz.func203 tr203
 ·exact gd Go.Proofs.Tryz.func204 tr204
 ·exact gd Go.Proofs.Tryz.func205 tr205
 ·exact gd Go.Proofs.Tryz.func206 tr206
 ·exact gd Go.Proofs.Tryz.func207 tr207
 ·exact gd Go.Proofs.Tryz.func208 tr208
 ·exact gd Go.Proofs.Tryz.func209 tr209
 ·exact gd Go.Proofs.Tryz.func210 tr210
 ·exact gd Go.Proofs.Tryz.func211 tr211
 ·exact gd Go.Proofs.Tryz.func212 tr212
 ·exact gd Go.Proofs.Tryz.func213 tr213
 ·exact gd Go.Proofs.Tryz.func214 tr214
 ·exact gd Go.Proofs.Tryz.func215 tr215
 ·exact gd Go.Proofs.Tryz.func216 tr216
 ·exact gd Go.Proofs.Tryz.func218 tr218
 ·exact gd Go.Proofs.Tryz.func219 tr219
 ·exact gd Go.Proofs.Tryz.func220 tr220
 ·exact gd Go.Proofs.Tryz.func221 tr221
 ·exact gd Go.Proofs.Tryz.func222 tr222
theorem envOK:EnvOK Go.Proofs.Tryz.prog Zgv env where
 ir f F h:=by
  simp only [env,Option.map_eq_some_iff] at h
  obtain ⟨x,h1,rfl⟩:=h
  have h2:=List.find?_some h1
  have h2:x.1=f:=by simpa using h2
  subst h2
  obtain ⟨fn,hs,p,q,r,s⟩:=goods x (List.mem_of_find?_eq_some h1)
  exact ⟨fn,hs,p,q,r,fun g cells hm=>by rw [s] at hm; exact hm⟩
 ext f x h:=Zth f x h
theorem callOK:∀ n,Zby Go.Proofs.Tryz.prog Zgv (call env n):=
 call_sound envOK (fun hs N hG=>Zgw hG (by kernel_rfl)) (fun n=>Zcz ext2.toExtOK n)
def RT (f:FuncId) (F:IFn):Prop:=∀ {args:List V} {h:H} {K:Out→H→Prop},args.length ≤ F.ntmps→Zc8 R F.body ⟨Zbv args,fun _=>none,0,[],h⟩ (endK F.results K) ⟨⟩→R f args h K
theorem rn {f:FuncId} {F:IFn} (hx:env.ext f=none) (hF:env.ir f=some F):RT f F:=fun hl hb=>runs_fn (F:=F) ext2 hx hF hl hb
theorem run5:RT 5 ir5:=rn rfl (by kernel_rfl)
theorem run11:RT 11 ir11:=rn rfl (by kernel_rfl)
theorem run17:RT 17 ir17:=rn rfl (by kernel_rfl)
theorem run20:RT 20 ir20:=rn rfl (by kernel_rfl)
theorem run21:RT 21 ir21:=rn rfl (by kernel_rfl)
theorem run22:RT 22 ir22:=rn rfl (by kernel_rfl)
theorem run25:RT 25 ir25:=rn rfl (by kernel_rfl)
theorem run26:RT 26 ir26:=rn rfl (by kernel_rfl)
theorem run27:RT 27 ir27:=rn rfl (by kernel_rfl)
theorem run28:RT 28 ir28:=rn rfl (by kernel_rfl)
theorem run29:RT 29 ir29:=rn rfl (by kernel_rfl)
theorem run33:RT 33 ir33:=rn rfl (by kernel_rfl)
theorem run34:RT 34 ir34:=rn rfl (by kernel_rfl)
theorem run39:RT 39 ir39:=rn rfl (by kernel_rfl)
theorem run40:RT 40 ir40:=rn rfl (by kernel_rfl)
theorem run44:RT 44 ir44:=rn rfl (by kernel_rfl)
theorem run45:RT 45 ir45:=rn rfl (by kernel_rfl)
theorem run46:RT 46 ir46:=rn rfl (by kernel_rfl)
theorem run47:RT 47 ir47:=rn rfl (by kernel_rfl)
theorem run48:RT 48 ir48:=rn rfl (by kernel_rfl)
theorem run49:RT 49 ir49:=rn rfl (by kernel_rfl)
theorem run50:RT 50 ir50:=rn rfl (by kernel_rfl)
theorem run54:RT 54 ir54:=rn rfl (by kernel_rfl)
theorem run69:RT 69 ir69:=rn rfl (by kernel_rfl)
theorem run70:RT 70 ir70:=rn rfl (by kernel_rfl)
theorem run71:RT 71 ir71:=rn rfl (by kernel_rfl)
theorem run77:RT 77 ir77:=rn rfl (by kernel_rfl)
theorem run78:RT 78 ir78:=rn rfl (by kernel_rfl)
theorem run79:RT 79 ir79:=rn rfl (by kernel_rfl)
theorem run80:RT 80 ir80:=rn rfl (by kernel_rfl)
theorem run81:RT 81 ir81:=rn rfl (by kernel_rfl)
theorem run82:RT 82 ir82:=rn rfl (by kernel_rfl)
theorem run83:RT 83 ir83:=rn rfl (by kernel_rfl)
theorem run84:RT 84 ir84:=rn rfl (by kernel_rfl)
theorem run85:RT 85 ir85:=rn rfl (by kernel_rfl)
theorem run86:RT 86 ir86:=rn rfl (by kernel_rfl)
theorem run95:RT 95 ir95:=rn rfl (by kernel_rfl)
theorem run96:RT 96 ir96:=rn rfl (by kernel_rfl)
theorem run97:RT 97 ir97:=rn rfl (by kernel_rfl)
theorem run102:RT 102 ir102:=rn rfl (by kernel_rfl)
theorem run103:RT 103 ir103:=rn rfl (by kernel_rfl)
theorem run104:RT 104 ir104:=rn rfl (by kernel_rfl)
theorem run106:RT 106 ir106:=rn rfl (by kernel_rfl)
theorem run107:RT 107 ir107:=rn rfl (by kernel_rfl)
theorem run108:RT 108 ir108:=rn rfl (by kernel_rfl)
theorem run109:RT 109 ir109:=rn rfl (by kernel_rfl)
theorem run110:RT 110 ir110:=rn rfl (by kernel_rfl)
theorem run119:RT 119 ir119:=rn rfl (by kernel_rfl)
theorem run120:RT 120 ir120:=rn rfl (by kernel_rfl)
theorem run121:RT 121 ir121:=rn rfl (by kernel_rfl)
theorem run125:RT 125 ir125:=rn rfl (by kernel_rfl)
theorem run126:RT 126 ir126:=rn rfl (by kernel_rfl)
theorem run127:RT 127 ir127:=rn rfl (by kernel_rfl)
theorem run128:RT 128 ir128:=rn rfl (by kernel_rfl)
theorem run129:RT 129 ir129:=rn rfl (by kernel_rfl)
theorem run130:RT 130 ir130:=rn rfl (by kernel_rfl)
theorem run131:RT 131 ir131:=rn rfl (by kernel_rfl)
theorem run132:RT 132 ir132:=rn rfl (by kernel_rfl)
theorem run133:RT 133 ir133:=rn rfl (by kernel_rfl)
theorem run134:RT 134 ir134:=rn rfl (by kernel_rfl)
theorem run135:RT 135 ir135:=rn rfl (by kernel_rfl)
theorem run136:RT 136 ir136:=rn rfl (by kernel_rfl)
theorem run137:RT 137 ir137:=rn rfl (by kernel_rfl)
theorem run146:RT 146 ir146:=rn rfl (by kernel_rfl)
theorem run147:RT 147 ir147:=rn rfl (by kernel_rfl)
theorem run148:RT 148 ir148:=rn rfl (by kernel_rfl)
theorem run149:RT 149 ir149:=rn rfl (by kernel_rfl)
theorem run150:RT 150 ir150:=rn rfl (by kernel_rfl)
theorem run159:RT 159 ir159:=rn rfl (by kernel_rfl)
theorem run160:RT 160 ir160:=rn rfl (by kernel_rfl)
theorem run161:RT 161 ir161:=rn rfl (by kernel_rfl)
theorem run162:RT 162 ir162:=rn rfl (by kernel_rfl)
theorem run163:RT 163 ir163:=rn rfl (by kernel_rfl)
theorem run164:RT 164 ir164:=rn rfl (by kernel_rfl)
theorem run177:RT 177 ir177:=rn rfl (by kernel_rfl)
theorem run178:RT 178 ir178:=rn rfl (by kernel_rfl)
theorem run179:RT 179 ir179:=rn rfl (by kernel_rfl)
theorem run180:RT 180 ir180:=rn rfl (by kernel_rfl)
theorem run181:RT 181 ir181:=rn rfl (by kernel_rfl)
theorem run182:RT 182 ir182:=rn rfl (by kernel_rfl)
theorem run193:RT 193 ir193:=rn rfl (by kernel_rfl)
theorem run198:RT 198 ir198:=rn rfl (by kernel_rfl)
theorem run208:RT 208 ir208:=rn rfl (by kernel_rfl)
theorem run209:RT 209 ir209:=rn rfl (by kernel_rfl)
theorem run210:RT 210 ir210:=rn rfl (by kernel_rfl)
theorem run218:RT 218 ir218:=rn rfl (by kernel_rfl)
end Go.Ab.YtihjhelbdbeokaaGreatDoor
