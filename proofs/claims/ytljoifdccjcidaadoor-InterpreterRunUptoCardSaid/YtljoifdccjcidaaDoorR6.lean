/- Part of a proof:  -/
import Derived.Test.YtljoifdccjcidaaDoorR3
import Derived.Test.YtljoifdccjcidaaDoorR5
set_option linter.unusedVariables false
set_option maxRecDepth 100000
namespace Go.Ab.YtljoifdccjcidaaDoor
def irs:List (Nat × IFn):=[(3,ir3),(11,ir11),(12,ir12),(13,ir13),(14,ir14),(15,ir15),(16,ir16),(17,ir17),(18,ir18),(19,ir19),(20,ir20),(25,ir25),(26,ir26),(27,ir27),(28,ir28),(30,ir30),(31,ir31),(32,ir32),(33,ir33),(34,ir34),(35,ir35),(36,ir36),(38,ir38),(39,ir39),(40,ir40),(41,ir41),(42,ir42),(44,ir44),(45,ir45),(46,ir46),(47,ir47),(48,ir48),(49,ir49),(50,ir50),(52,ir52),(53,ir53),(54,ir54),(55,ir55),(56,ir56),(57,ir57),(58,ir58),(59,ir59),(60,ir60),(61,ir61),(62,ir62),(63,ir63),(64,ir64),(65,ir65),(66,ir66),(67,ir67),(68,ir68),(69,ir69),(70,ir70),(71,ir71),(72,ir72),(73,ir73),(74,ir74),(75,ir75),(76,ir76),(77,ir77),(78,ir78),(79,ir79),(80,ir80),(81,ir81),(82,ir82),(83,ir83),(84,ir84),(85,ir85),(87,ir87),(88,ir88),(89,ir89),(90,ir90),(91,ir91),(92,ir92),(93,ir93),(94,ir94),(95,ir95),(96,ir96),(97,ir97),(98,ir98),(99,ir99),(100,ir100),(101,ir101),(102,ir102),(103,ir103),(104,ir104),(105,ir105),(106,ir106),(107,ir107),(108,ir108),(109,ir109),(110,ir110),(111,ir111),(112,ir112),(113,ir113)]
def env:Env:=⟨fun f=>(irs.find? (·.1 == f)).map (·.2),exts⟩
abbrev R:Za2:=Runs env
theorem ext2:ExtOK2 env:={ le:=exts_le,cont:=exts_cont }
theorem mono:Zcy R:=Zeb ext2.toExtOK
def Good (x : Nat × IFn) : Prop := ∃ fn hs, Go.Proofs.Tryd.prog.funcs[x.1]? = some fn ∧ fn.name ≠ "runtime.NumGoroutine" ∧ trF Go.Proofs.Tryd.prog hs fn = some x.2 ∧ hs.glob = Zik
theorem gd {n:Nat} {fn:Func} {F:IFn} {hs:Hints} (a:Go.Proofs.Tryd.prog.funcs[n]?=some fn) (t:trF Go.Proofs.Tryd.prog hs fn=some F) (b:fn.name ≠ "runtime.NumGoroutine":=by decide +kernel) (c:hs.glob=Zik:=by rfl):Good (n,F):=⟨fn,hs,a,b,t,c⟩
theorem goods:∀ x ∈ irs,Good x:=by
 intro x hx
 simp only [irs,List.mem_cons,List.not_mem_nil,or_false] at hx
 rcases hx with rfl | rfl | rfl | rfl | rfl | rfl | rfl | rfl | rfl | rfl | rfl | rfl | rfl | rfl | rfl | rfl | rfl | rfl | rfl | rfl | rfl | rfl | rfl | rfl | rfl | rfl | rfl | rfl | rfl | rfl | rfl | rfl | rfl | rfl | rfl | rfl | rfl | rfl | rfl | rfl | rfl | rfl | rfl | rfl | rfl | rfl | rfl | rfl | rfl | rfl | rfl | rfl | rfl | rfl | rfl | rfl | rfl | rfl | rfl | rfl | rfl | rfl | rfl | rfl | rfl | rfl | rfl | rfl | rfl | rfl | rfl | rfl | rfl | rfl | rfl | rfl | rfl | rfl | rfl | rfl | rfl | rfl | rfl | rfl | rfl | rfl | rfl | rfl | rfl | rfl | rfl | rfl | rfl | rfl | rfl
 ·exact gd Go.Proofs.Tryd.func3 tr3
 ·exact gd Go.Proofs.Tryd.func11 tr11
 ·exact gd Go.Proofs.Tryd.func12 tr12
 ·exact gd Go.Proofs.Tryd.func13 tr13
 ·exact gd Go.Proofs.Tryd.func14 tr14
 ·exact gd Go.Proofs.Tryd.func15 tr15
 ·exact gd Go.Proofs.Tryd.func16 tr16
 ·exact gd Go.Proofs.Tryd.func17 tr17
 ·exact gd Go.Proofs.Tryd.func18 tr18
 ·exact gd Go.Proofs.Tryd.func19 tr19
 ·exact gd Go.Proofs.Tryd.func20 tr20
 ·exact gd Go.Proofs.Tryd.func25 tr25
 ·exact gd Go.Proofs.Tryd.func26 tr26
 ·exact gd Go.Proofs.Tryd.func27 tr27
 ·exact gd Go.Proofs.Tryd.func28 tr28
 ·exact gd Go.Proofs.Tryd.func30 tr30
 ·exact gd Go.Proofs.Tryd.func31 tr31
 ·exact gd Go.Proofs.Tryd.func32 tr32
 ·exact gd Go.Proofs.Tryd.func33 tr33
 ·exact gd Go.Proofs.Tryd.func34 tr34
 ·exact gd Go.Proofs.Tryd.func35 tr35
 ·exact gd Go.Proofs.Tryd.func36 tr36
 ·exact gd Go.Proofs.Tryd.func38 tr38
 ·exact gd Go.Proofs.Tryd.func39 tr39
 ·exact gd Go.Proofs.Tryd.func40 tr40
 ·exact gd Go.Proofs.Tryd.func41 tr41
 ·exact gd Go.Proofs.Tryd.func42 tr42
 ·exact gd Go.Proofs.Tryd.func44 tr44
 ·exact gd Go.Proofs.Tryd.func45 tr45
 ·exact gd Go.Proofs.Tryd.func46 tr46
 ·exact gd Go.Proofs.Tryd.func47 tr47
 ·exact gd Go.Proofs.Tryd.func48 tr48
 ·exact gd Go.Proofs.Tryd.func49 tr49
 ·exact gd Go.Proofs.Tryd.func50 tr50
 ·exact gd Go.Proofs.Tryd.func52 tr52
 ·exact gd Go.Proofs.Tryd.func53 tr53
 ·exact gd Go.Proofs.Tryd.func54 tr54
 ·exact gd Go.Proofs.Tryd.func55 tr55
 ·exact gd Go.Proofs.Tryd.func56 tr56
 ·exact gd Go.Proofs.Tryd.func57 tr57
 ·exact gd Go.Proofs.Tryd.func58 tr58
 ·exact gd Go.Proofs.Tryd.func59 tr59
 ·exact gd Go.Proofs.Tryd.func60 tr60
 ·exact gd Go.Proofs.Tryd.func61 tr61
 ·exact gd Go.Proofs.Tryd.func62 tr62
 ·exact gd Go.Proofs.Tryd.func63 tr63
 ·exact gd Go.Proofs.Tryd.func64 tr64
 ·exact gd Go.Proofs.Tryd.func65 tr65
 ·exact gd Go.Proofs.Tryd.func66 tr66
 ·exact gd Go.Proofs.Tryd.func67 tr67
 ·exact gd Go.Proofs.Tryd.func68 tr68
 ·exact gd Go.Proofs.Tryd.func69 tr69
 ·exact gd Go.Proofs.Tryd.func70 tr70
 ·exact gd Go.Proofs.Tryd.func71 tr71
 ·exact gd Go.Proofs.Tryd.func72 tr72
 ·exact gd Go.Proofs.Tryd.func73 tr73
 ·exact gd Go.Proofs.Tryd.func74 tr74
 ·exact gd Go.Proofs.Tryd.func75 tr75
 ·exact gd Go.Proofs.Tryd.func76 tr76
 ·exact gd Go.Proofs.Tryd.func77 tr77
 ·exact gd Go.Proofs.Tryd.func78 tr78
 ·exact gd Go.Proofs.Tryd.func79 tr79
 ·exact gd Go.Proofs.Tryd.func80 tr80
 ·exact gd Go.Proofs.Tryd.func81 tr81
 ·exact gd Go.Proofs.Tryd.func82 tr82
 ·exact gd Go.Proofs.Tryd.func83 tr83
 ·exact gd Go.Proofs.Tryd.func84 tr84
 ·exact gd Go.Proofs.Tryd.func85 tr85
 ·exact gd Go.Proofs.Tryd.func87 tr87
 ·exact gd Go.Proofs.Tryd.func88 tr88
 ·exact gd Go.Proofs.Tryd.func89 tr89
 ·exact gd Go.Proofs.Tryd.func90 tr90
 ·exact gd Go.Proofs.Tryd.func91 tr91
 ·exact gd Go.Proofs.Tryd.func92 tr92
 ·exact gd Go.Proofs.Tryd.func93 tr93
 ·exact gd Go.Proofs.Tryd.func94 tr94
 ·exact gd Go.Proofs.Tryd.func95 tr95
 ·exact gd Go.Proofs.Tryd.func96 tr96
 ·exact gd Go.Proofs.Tryd.func97 tr97
 ·exact gd Go.Proofs.Tryd.func98 tr98
 ·exact gd Go.Proofs.Tryd.func99 tr99
 ·exact gd Go.Proofs.Tryd.func100 tr100
 ·exact gd Go.Proofs.Tryd.func101 tr101
 ·exact gd Go.Proofs.Tryd.func102 tr102
 ·exact gd Go.Proofs.Tryd.func103 tr103
 ·exact gd Go.Proofs.Tryd.func104 tr104
 ·exact gd Go.Proofs.Tryd.func105 tr105
 ·exact gd Go.Proofs.Tryd.func106 tr106
 ·exact gd Go.Proofs.Tryd.func107 tr107
 ·exact gd Go.Proofs.Tryd.func108 tr108
 ·exact gd Go.Proofs.Tryd.func109 tr109
 ·exact gd Go.Proofs.Tryd.func110 tr110
 ·exact gd Go.Proofs.Tryd.func111 tr111
 ·exact gd Go.Proofs.Tryd.func112 tr112
 ·exact gd Go.Proofs.Tryd.func113 tr113
theorem envOK:EnvOK Go.Proofs.Tryd.prog Zik env where
 ir f F h:=by
  simp only [env,Option.map_eq_some_iff] at h
  obtain ⟨x,h1,rfl⟩:=h
  have h2:=List.find?_some h1
  have h2:x.1=f:=by simpa using h2
  subst h2
  obtain ⟨fn,hs,p,q,r,s⟩:=goods x (List.mem_of_find?_eq_some h1)
  exact ⟨fn,hs,p,q,r,fun g cells hm=>by rw [s] at hm; exact hm⟩
 ext f x h:=exts_sound f x h
theorem callOK:∀ n,Zb9 Go.Proofs.Tryd.prog Zik (call env n):=
 call_sound envOK (fun hs N hG=>draw_ok hG (by kernel_rfl)) (fun n=>Zdm ext2.toExtOK n)
def RT (f:FuncId) (F:IFn):Prop:=∀ {args:List V} {h:H} {K:Out→H→Prop},args.length ≤ F.ntmps→Zde R F.body ⟨Zct args,fun _=>none,0,[],h⟩ (endK F.results K) ⟨⟩→R f args h K
theorem rn {f:FuncId} {F:IFn} (hx:env.ext f=none) (hF:env.ir f=some F):RT f F:=fun hl hb=>runs_fn (F:=F) ext2 hx hF hl hb
theorem run3:RT 3 ir3:=rn rfl (by kernel_rfl)
theorem run11:RT 11 ir11:=rn rfl (by kernel_rfl)
theorem run12:RT 12 ir12:=rn rfl (by kernel_rfl)
theorem run13:RT 13 ir13:=rn rfl (by kernel_rfl)
theorem run14:RT 14 ir14:=rn rfl (by kernel_rfl)
theorem run15:RT 15 ir15:=rn rfl (by kernel_rfl)
theorem run16:RT 16 ir16:=rn rfl (by kernel_rfl)
theorem run17:RT 17 ir17:=rn rfl (by kernel_rfl)
theorem run18:RT 18 ir18:=rn rfl (by kernel_rfl)
theorem run19:RT 19 ir19:=rn rfl (by kernel_rfl)
theorem run20:RT 20 ir20:=rn rfl (by kernel_rfl)
theorem run25:RT 25 ir25:=rn rfl (by kernel_rfl)
theorem run26:RT 26 ir26:=rn rfl (by kernel_rfl)
theorem run27:RT 27 ir27:=rn rfl (by kernel_rfl)
theorem run28:RT 28 ir28:=rn rfl (by kernel_rfl)
theorem run30:RT 30 ir30:=rn rfl (by kernel_rfl)
theorem run31:RT 31 ir31:=rn rfl (by kernel_rfl)
theorem run32:RT 32 ir32:=rn rfl (by kernel_rfl)
theorem run33:RT 33 ir33:=rn rfl (by kernel_rfl)
theorem run34:RT 34 ir34:=rn rfl (by kernel_rfl)
theorem run35:RT 35 ir35:=rn rfl (by kernel_rfl)
theorem run36:RT 36 ir36:=rn rfl (by kernel_rfl)
theorem run38:RT 38 ir38:=rn rfl (by kernel_rfl)
theorem run39:RT 39 ir39:=rn rfl (by kernel_rfl)
theorem run40:RT 40 ir40:=rn rfl (by kernel_rfl)
theorem run41:RT 41 ir41:=rn rfl (by kernel_rfl)
theorem run42:RT 42 ir42:=rn rfl (by kernel_rfl)
theorem run44:RT 44 ir44:=rn rfl (by kernel_rfl)
theorem run45:RT 45 ir45:=rn rfl (by kernel_rfl)
theorem run46:RT 46 ir46:=rn rfl (by kernel_rfl)
theorem run47:RT 47 ir47:=rn rfl (by kernel_rfl)
theorem run48:RT 48 ir48:=rn rfl (by kernel_rfl)
theorem run49:RT 49 ir49:=rn rfl (by kernel_rfl)
theorem run50:RT 50 ir50:=rn rfl (by kernel_rfl)
theorem run52:RT 52 ir52:=rn rfl (by kernel_rfl)
theorem run53:RT 53 ir53:=rn rfl (by kernel_rfl)
theorem run54:RT 54 ir54:=rn rfl (by kernel_rfl)
theorem run55:RT 55 ir55:=rn rfl (by kernel_rfl)
theorem run56:RT 56 ir56:=rn rfl (by kernel_rfl)
theorem run57:RT 57 ir57:=rn rfl (by kernel_rfl)
theorem run58:RT 58 ir58:=rn rfl (by kernel_rfl)
theorem run59:RT 59 ir59:=rn rfl (by kernel_rfl)
theorem run60:RT 60 ir60:=rn rfl (by kernel_rfl)
theorem run61:RT 61 ir61:=rn rfl (by kernel_rfl)
theorem run62:RT 62 ir62:=rn rfl (by kernel_rfl)
theorem run63:RT 63 ir63:=rn rfl (by kernel_rfl)
theorem run64:RT 64 ir64:=rn rfl (by kernel_rfl)
theorem run65:RT 65 ir65:=rn rfl (by kernel_rfl)
theorem run66:RT 66 ir66:=rn rfl (by kernel_rfl)
theorem run67:RT 67 ir67:=rn rfl (by kernel_rfl)
theorem run68:RT 68 ir68:=rn rfl (by kernel_rfl)
theorem run69:RT 69 ir69:=rn rfl (by kernel_rfl)
theorem run70:RT 70 ir70:=rn rfl (by kernel_rfl)
theorem run71:RT 71 ir71:=rn rfl (by kernel_rfl)
theorem run72:RT 72 ir72:=rn rfl (by kernel_rfl)
theorem run73:RT 73 ir73:=rn rfl (by kernel_rfl)
theorem run74:RT 74 ir74:=rn rfl (by kernel_rfl)
theorem run75:RT 75 ir75:=rn rfl (by kernel_rfl)
theorem run76:RT 76 ir76:=rn rfl (by kernel_rfl)
theorem run77:RT 77 ir77:=rn rfl (by kernel_rfl)
theorem run78:RT 78 ir78:=rn rfl (by kernel_rfl)
theorem run79:RT 79 ir79:=rn rfl (by kernel_rfl)
theorem run80:RT 80 ir80:=rn rfl (by kernel_rfl)
theorem run81:RT 81 ir81:=rn rfl (by kernel_rfl)
theorem run82:RT 82 ir82:=rn rfl (by kernel_rfl)
theorem run83:RT 83 ir83:=rn rfl (by kernel_rfl)
theorem run84:RT 84 ir84:=rn rfl (by kernel_rfl)
theorem run85:RT 85 ir85:=rn rfl (by kernel_rfl)
theorem run87:RT 87 ir87:=rn rfl (by kernel_rfl)
theorem run88:RT 88 ir88:=rn rfl (by kernel_rfl)
theorem run89:RT 89 ir89:=rn rfl (by kernel_rfl)
theorem run90:RT 90 ir90:=rn rfl (by kernel_rfl)
theorem run91:RT 91 ir91:=rn rfl (by kernel_rfl)
theorem run92:RT 92 ir92:=rn rfl (by kernel_rfl)
theorem run93:RT 93 ir93:=rn rfl (by kernel_rfl)
theorem run94:RT 94 ir94:=rn rfl (by kernel_rfl)
theorem run95:RT 95 ir95:=rn rfl (by kernel_rfl)
theorem run96:RT 96 ir96:=rn rfl (by kernel_rfl)
theorem run97:RT 97 ir97:=rn rfl (by kernel_rfl)
theorem run98:RT 98 ir98:=rn rfl (by kernel_rfl)
theorem run99:RT 99 ir99:=rn rfl (by kernel_rfl)
theorem run100:RT 100 ir100:=rn rfl (by kernel_rfl)
theorem run101:RT 101 ir101:=rn rfl (by kernel_rfl)
theorem run102:RT 102 ir102:=rn rfl (by kernel_rfl)
theorem run103:RT 103 ir103:=rn rfl (by kernel_rfl)
theorem run104:RT 104 ir104:=rn rfl (by kernel_rfl)
theorem run105:RT 105 ir105:=rn rfl (by kernel_rfl)
theorem run106:RT 106 ir106:=rn rfl (by kernel_rfl)
theorem run107:RT 107 ir107:=rn rfl (by kernel_rfl)
theorem run108:RT 108 ir108:=rn rfl (by kernel_rfl)
theorem run109:RT 109 ir109:=rn rfl (by kernel_rfl)
theorem run110:RT 110 ir110:=rn rfl (by kernel_rfl)
theorem run111:RT 111 ir111:=rn rfl (by kernel_rfl)
theorem run112:RT 112 ir112:=rn rfl (by kernel_rfl)
theorem run113:RT 113 ir113:=rn rfl (by kernel_rfl)
end Go.Ab.YtljoifdccjcidaaDoor
