/- Part of a proof:  -/
import Derived.Test.YtljoifdccjcidaaDoorY3
import Derived.Test.YtljoifdccjcidaaDoorY5
set_option linter.unusedVariables false
set_option maxRecDepth 100000
namespace Go.Ab.YtljoifdccjcidaaDoor
def irs:List (Nat × IFn):=[(4,ir4),(5,ir5),(6,ir6),(7,ir7),(8,ir8),(9,ir9),(10,ir10),(11,ir11),(12,ir12),(13,ir13),(15,ir15),(16,ir16),(17,ir17),(18,ir18),(19,ir19),(20,ir20),(21,ir21),(22,ir22),(23,ir23),(24,ir24),(25,ir25),(26,ir26),(27,ir27),(28,ir28),(30,ir30),(32,ir32),(35,ir35),(36,ir36),(38,ir38),(39,ir39),(40,ir40),(41,ir41),(42,ir42),(44,ir44),(45,ir45),(50,ir50),(52,ir52),(53,ir53),(54,ir54),(55,ir55),(56,ir56),(57,ir57),(58,ir58),(59,ir59),(60,ir60),(61,ir61),(62,ir62),(65,ir65),(66,ir66),(67,ir67),(68,ir68),(69,ir69),(70,ir70),(71,ir71),(72,ir72),(76,ir76),(77,ir77),(78,ir78),(79,ir79),(80,ir80),(81,ir81),(82,ir82),(83,ir83),(84,ir84),(87,ir87),(88,ir88),(89,ir89),(90,ir90),(91,ir91),(92,ir92),(102,ir102)]
def env:Env:=⟨fun f=>(irs.find? (·.1 == f)).map (·.2),exts⟩
abbrev R:CallT:=Runs env
theorem ext2:ExtOK2 env:={ le:=exts_le,cont:=exts_cont }
theorem mono:MonoT R:=runs_mono ext2.toExtOK
def Good (x : Nat × IFn) : Prop := ∃ fn hs, Go.Proofs.Tryd.prog.funcs[x.1]? = some fn ∧ fn.name ≠ "runtime.NumGoroutine" ∧ trF Go.Proofs.Tryd.prog hs fn = some x.2 ∧ hs.glob = globs
theorem good4:Good (4,ir4):=⟨Go.Proofs.Tryd.f4,_,Go.Proofs.Tryd.func4,by decide +kernel,tr4,rfl⟩
theorem good5:Good (5,ir5):=⟨Go.Proofs.Tryd.f5,_,Go.Proofs.Tryd.func5,by decide +kernel,tr5,rfl⟩
theorem good6:Good (6,ir6):=⟨Go.Proofs.Tryd.f6,_,Go.Proofs.Tryd.func6,by decide +kernel,tr6,rfl⟩
theorem good7:Good (7,ir7):=⟨Go.Proofs.Tryd.f7,_,Go.Proofs.Tryd.func7,by decide +kernel,tr7,rfl⟩
theorem good8:Good (8,ir8):=⟨Go.Proofs.Tryd.f8,_,Go.Proofs.Tryd.func8,by decide +kernel,tr8,rfl⟩
theorem good9:Good (9,ir9):=⟨Go.Proofs.Tryd.f9,_,Go.Proofs.Tryd.func9,by decide +kernel,tr9,rfl⟩
theorem good10:Good (10,ir10):=⟨Go.Proofs.Tryd.f10,_,Go.Proofs.Tryd.func10,by decide +kernel,tr10,rfl⟩
theorem good11:Good (11,ir11):=⟨Go.Proofs.Tryd.f11,_,Go.Proofs.Tryd.func11,by decide +kernel,tr11,rfl⟩
theorem good12:Good (12,ir12):=⟨Go.Proofs.Tryd.f12,_,Go.Proofs.Tryd.func12,by decide +kernel,tr12,rfl⟩
theorem good13:Good (13,ir13):=⟨Go.Proofs.Tryd.f13,_,Go.Proofs.Tryd.func13,by decide +kernel,tr13,rfl⟩
theorem good15:Good (15,ir15):=⟨Go.Proofs.Tryd.f15,_,Go.Proofs.Tryd.func15,by decide +kernel,tr15,rfl⟩
theorem good16:Good (16,ir16):=⟨Go.Proofs.Tryd.f16,_,Go.Proofs.Tryd.func16,by decide +kernel,tr16,rfl⟩
theorem good17:Good (17,ir17):=⟨Go.Proofs.Tryd.f17,_,Go.Proofs.Tryd.func17,by decide +kernel,tr17,rfl⟩
theorem good18:Good (18,ir18):=⟨Go.Proofs.Tryd.f18,_,Go.Proofs.Tryd.func18,by decide +kernel,tr18,rfl⟩
theorem good19:Good (19,ir19):=⟨Go.Proofs.Tryd.f19,_,Go.Proofs.Tryd.func19,by decide +kernel,tr19,rfl⟩
theorem good20:Good (20,ir20):=⟨Go.Proofs.Tryd.f20,_,Go.Proofs.Tryd.func20,by decide +kernel,tr20,rfl⟩
theorem good21:Good (21,ir21):=⟨Go.Proofs.Tryd.f21,_,Go.Proofs.Tryd.func21,by decide +kernel,tr21,rfl⟩
theorem good22:Good (22,ir22):=⟨Go.Proofs.Tryd.f22,_,Go.Proofs.Tryd.func22,by decide +kernel,tr22,rfl⟩
theorem good23:Good (23,ir23):=⟨Go.Proofs.Tryd.f23,_,Go.Proofs.Tryd.func23,by decide +kernel,tr23,rfl⟩
theorem good24:Good (24,ir24):=⟨Go.Proofs.Tryd.f24,_,Go.Proofs.Tryd.func24,by decide +kernel,tr24,rfl⟩
theorem good25:Good (25,ir25):=⟨Go.Proofs.Tryd.f25,_,Go.Proofs.Tryd.func25,by decide +kernel,tr25,rfl⟩
theorem good26:Good (26,ir26):=⟨Go.Proofs.Tryd.f26,_,Go.Proofs.Tryd.func26,by decide +kernel,tr26,rfl⟩
theorem good27:Good (27,ir27):=⟨Go.Proofs.Tryd.f27,_,Go.Proofs.Tryd.func27,by decide +kernel,tr27,rfl⟩
theorem good28:Good (28,ir28):=⟨Go.Proofs.Tryd.f28,_,Go.Proofs.Tryd.func28,by decide +kernel,tr28,rfl⟩
theorem good30:Good (30,ir30):=⟨Go.Proofs.Tryd.f30,_,Go.Proofs.Tryd.func30,by decide +kernel,tr30,rfl⟩
theorem good32:Good (32,ir32):=⟨Go.Proofs.Tryd.f32,_,Go.Proofs.Tryd.func32,by decide +kernel,tr32,rfl⟩
theorem good35:Good (35,ir35):=⟨Go.Proofs.Tryd.f35,_,Go.Proofs.Tryd.func35,by decide +kernel,tr35,rfl⟩
theorem good36:Good (36,ir36):=⟨Go.Proofs.Tryd.f36,_,Go.Proofs.Tryd.func36,by decide +kernel,tr36,rfl⟩
theorem good38:Good (38,ir38):=⟨Go.Proofs.Tryd.f38,_,Go.Proofs.Tryd.func38,by decide +kernel,tr38,rfl⟩
theorem good39:Good (39,ir39):=⟨Go.Proofs.Tryd.f39,_,Go.Proofs.Tryd.func39,by decide +kernel,tr39,rfl⟩
theorem good40:Good (40,ir40):=⟨Go.Proofs.Tryd.f40,_,Go.Proofs.Tryd.func40,by decide +kernel,tr40,rfl⟩
theorem good41:Good (41,ir41):=⟨Go.Proofs.Tryd.f41,_,Go.Proofs.Tryd.func41,by decide +kernel,tr41,rfl⟩
theorem good42:Good (42,ir42):=⟨Go.Proofs.Tryd.f42,_,Go.Proofs.Tryd.func42,by decide +kernel,tr42,rfl⟩
theorem good44:Good (44,ir44):=⟨Go.Proofs.Tryd.f44,_,Go.Proofs.Tryd.func44,by decide +kernel,tr44,rfl⟩
theorem good45:Good (45,ir45):=⟨Go.Proofs.Tryd.f45,_,Go.Proofs.Tryd.func45,by decide +kernel,tr45,rfl⟩
theorem good50:Good (50,ir50):=⟨Go.Proofs.Tryd.f50,_,Go.Proofs.Tryd.func50,by decide +kernel,tr50,rfl⟩
theorem good52:Good (52,ir52):=⟨Go.Proofs.Tryd.f52,_,Go.Proofs.Tryd.func52,by decide +kernel,tr52,rfl⟩
theorem good53:Good (53,ir53):=⟨Go.Proofs.Tryd.f53,_,Go.Proofs.Tryd.func53,by decide +kernel,tr53,rfl⟩
theorem good54:Good (54,ir54):=⟨Go.Proofs.Tryd.f54,_,Go.Proofs.Tryd.func54,by decide +kernel,tr54,rfl⟩
theorem good55:Good (55,ir55):=⟨Go.Proofs.Tryd.f55,_,Go.Proofs.Tryd.func55,by decide +kernel,tr55,rfl⟩
theorem good56:Good (56,ir56):=⟨Go.Proofs.Tryd.f56,_,Go.Proofs.Tryd.func56,by decide +kernel,tr56,rfl⟩
theorem good57:Good (57,ir57):=⟨Go.Proofs.Tryd.f57,_,Go.Proofs.Tryd.func57,by decide +kernel,tr57,rfl⟩
theorem good58:Good (58,ir58):=⟨Go.Proofs.Tryd.f58,_,Go.Proofs.Tryd.func58,by decide +kernel,tr58,rfl⟩
theorem good59:Good (59,ir59):=⟨Go.Proofs.Tryd.f59,_,Go.Proofs.Tryd.func59,by decide +kernel,tr59,rfl⟩
theorem good60:Good (60,ir60):=⟨Go.Proofs.Tryd.f60,_,Go.Proofs.Tryd.func60,by decide +kernel,tr60,rfl⟩
theorem good61:Good (61,ir61):=⟨Go.Proofs.Tryd.f61,_,Go.Proofs.Tryd.func61,by decide +kernel,tr61,rfl⟩
theorem good62:Good (62,ir62):=⟨Go.Proofs.Tryd.f62,_,Go.Proofs.Tryd.func62,by decide +kernel,tr62,rfl⟩
theorem good65:Good (65,ir65):=⟨Go.Proofs.Tryd.f65,_,Go.Proofs.Tryd.func65,by decide +kernel,tr65,rfl⟩
theorem good66:Good (66,ir66):=⟨Go.Proofs.Tryd.f66,_,Go.Proofs.Tryd.func66,by decide +kernel,tr66,rfl⟩
theorem good67:Good (67,ir67):=⟨Go.Proofs.Tryd.f67,_,Go.Proofs.Tryd.func67,by decide +kernel,tr67,rfl⟩
theorem good68:Good (68,ir68):=⟨Go.Proofs.Tryd.f68,_,Go.Proofs.Tryd.func68,by decide +kernel,tr68,rfl⟩
theorem good69:Good (69,ir69):=⟨Go.Proofs.Tryd.f69,_,Go.Proofs.Tryd.func69,by decide +kernel,tr69,rfl⟩
theorem good70:Good (70,ir70):=⟨Go.Proofs.Tryd.f70,_,Go.Proofs.Tryd.func70,by decide +kernel,tr70,rfl⟩
theorem good71:Good (71,ir71):=⟨Go.Proofs.Tryd.f71,_,Go.Proofs.Tryd.func71,by decide +kernel,tr71,rfl⟩
theorem good72:Good (72,ir72):=⟨Go.Proofs.Tryd.f72,_,Go.Proofs.Tryd.func72,by decide +kernel,tr72,rfl⟩
theorem good76:Good (76,ir76):=⟨Go.Proofs.Tryd.f76,_,Go.Proofs.Tryd.func76,by decide +kernel,tr76,rfl⟩
theorem good77:Good (77,ir77):=⟨Go.Proofs.Tryd.f77,_,Go.Proofs.Tryd.func77,by decide +kernel,tr77,rfl⟩
theorem good78:Good (78,ir78):=⟨Go.Proofs.Tryd.f78,_,Go.Proofs.Tryd.func78,by decide +kernel,tr78,rfl⟩
theorem good79:Good (79,ir79):=⟨Go.Proofs.Tryd.f79,_,Go.Proofs.Tryd.func79,by decide +kernel,tr79,rfl⟩
theorem good80:Good (80,ir80):=⟨Go.Proofs.Tryd.f80,_,Go.Proofs.Tryd.func80,by decide +kernel,tr80,rfl⟩
theorem good81:Good (81,ir81):=⟨Go.Proofs.Tryd.f81,_,Go.Proofs.Tryd.func81,by decide +kernel,tr81,rfl⟩
theorem good82:Good (82,ir82):=⟨Go.Proofs.Tryd.f82,_,Go.Proofs.Tryd.func82,by decide +kernel,tr82,rfl⟩
theorem good83:Good (83,ir83):=⟨Go.Proofs.Tryd.f83,_,Go.Proofs.Tryd.func83,by decide +kernel,tr83,rfl⟩
theorem good84:Good (84,ir84):=⟨Go.Proofs.Tryd.f84,_,Go.Proofs.Tryd.func84,by decide +kernel,tr84,rfl⟩
theorem good87:Good (87,ir87):=⟨Go.Proofs.Tryd.f87,_,Go.Proofs.Tryd.func87,by decide +kernel,tr87,rfl⟩
theorem good88:Good (88,ir88):=⟨Go.Proofs.Tryd.f88,_,Go.Proofs.Tryd.func88,by decide +kernel,tr88,rfl⟩
theorem good89:Good (89,ir89):=⟨Go.Proofs.Tryd.f89,_,Go.Proofs.Tryd.func89,by decide +kernel,tr89,rfl⟩
theorem good90:Good (90,ir90):=⟨Go.Proofs.Tryd.f90,_,Go.Proofs.Tryd.func90,by decide +kernel,tr90,rfl⟩
theorem good91:Good (91,ir91):=⟨Go.Proofs.Tryd.f91,_,Go.Proofs.Tryd.func91,by decide +kernel,tr91,rfl⟩
theorem good92:Good (92,ir92):=⟨Go.Proofs.Tryd.f92,_,Go.Proofs.Tryd.func92,by decide +kernel,tr92,rfl⟩
theorem good102:Good (102,ir102):=⟨Go.Proofs.Tryd.f102,_,Go.Proofs.Tryd.func102,by decide +kernel,tr102,rfl⟩
theorem goods:∀ x ∈ irs,Good x:=by
 intro x hx
 simp only [irs,List.mem_cons,List.not_mem_nil,or_false] at hx
 rcases hx with rfl | rfl | rfl | rfl | rfl | rfl | rfl | rfl | rfl | rfl | rfl | rfl | rfl | rfl | rfl | rfl | rfl | rfl | rfl | rfl | rfl | rfl | rfl | rfl | rfl | rfl | rfl | rfl | rfl | rfl | rfl | rfl | rfl | rfl | rfl | rfl | rfl | rfl | rfl | rfl | rfl | rfl | rfl | rfl | rfl | rfl | rfl | rfl | rfl | rfl | rfl | rfl | rfl | rfl | rfl | rfl | rfl | rfl | rfl | rfl | rfl | rfl | rfl | rfl | rfl | rfl | rfl | rfl | rfl | rfl | rfl
 ·exact good4
 ·exact good5
 ·exact good6
 ·exact good7
 ·exact good8
 ·exact good9
 ·exact good10
 ·exact good11
 ·exact good12
 ·exact good13
 ·exact good15
 ·exact good16
 ·exact good17
 ·exact good18
 ·exact good19
 ·exact good20
 ·exact good21
 ·exact good22
 ·exact good23
 ·exact good24
 ·exact good25
 ·exact good26
 ·exact good27
 ·exact good28
 ·exact good30
 ·exact good32
 ·exact good35
 ·exact good36
 ·exact good38
 ·exact good39
 ·exact good40
 ·exact good41
 ·exact good42
 ·exact good44
 ·exact good45
 ·exact good50
 ·exact good52
 ·exact good53
 ·exact good54
 ·exact good55
 ·exact good56
 ·exact good57
 ·exact good58
 ·exact good59
 ·exact good60
 ·exact good61
 ·exact good62
 ·exact good65
 ·exact good66
 ·exact good67
 ·exact good68
 ·exact good69
 ·exact good70
 ·exact good71
 ·exact good72
 ·exact good76
 ·exact good77
 ·exact good78
 ·exact good79
 ·exact good80
 ·exact good81
 ·exact good82
 ·exact good83
 ·exact good84
 ·exact good87
 ·exact good88
 ·exact good89
 ·exact good90
 ·exact good91
 ·exact good92
 ·exact good102
theorem envOK:EnvOK Go.Proofs.Tryd.prog globs env where
 ir f F h:=by
  simp only [env,Option.map_eq_some_iff] at h
  obtain ⟨x,h1,rfl⟩:=h
  have h2:=List.find?_some h1
  have h2:x.1=f:=by simpa using h2
  subst h2
  obtain ⟨fn,hs,p,q,r,s⟩:=goods x (List.mem_of_find?_eq_some h1)
  exact ⟨fn,hs,p,q,r,fun g cells hm=>by rw [s] at hm; exact hm⟩
 ext f x h:=exts_sound f x h
theorem callOK:∀ n,CallOK Go.Proofs.Tryd.prog globs (call env n):=
 call_sound envOK (fun hs N hG=>draw_ok hG (by kernel_rfl)) (fun n=>call_mono ext2.toExtOK n)
theorem run5 {args:List V} {h:H} {K:Out→H→Prop} (hl:args.length ≤ ir5.ntmps) (hb:codeT R ir5.body ⟨args0 args,fun _=>none,0,[],h⟩ (endK [.tmp 6 false] K) ⟨⟩):R 5 args h K:=runs_fn (F:=ir5) ext2 rfl (by kernel_rfl) hl hb
theorem run6 {args:List V} {h:H} {K:Out→H→Prop} (hl:args.length ≤ ir6.ntmps) (hb:codeT R ir6.body ⟨args0 args,fun _=>none,0,[],h⟩ (endK [.tmp 6 false] K) ⟨⟩):R 6 args h K:=runs_fn (F:=ir6) ext2 rfl (by kernel_rfl) hl hb
theorem run8 {args:List V} {h:H} {K:Out→H→Prop} (hl:args.length ≤ ir8.ntmps) (hb:codeT R ir8.body ⟨args0 args,fun _=>none,0,[],h⟩ (endK [.tmp 2 false] K) ⟨⟩):R 8 args h K:=runs_fn (F:=ir8) ext2 rfl (by kernel_rfl) hl hb
theorem run10 {args:List V} {h:H} {K:Out→H→Prop} (hl:args.length ≤ ir10.ntmps) (hb:codeT R ir10.body ⟨args0 args,fun _=>none,0,[],h⟩ (endK [.tmp 4 false] K) ⟨⟩):R 10 args h K:=runs_fn (F:=ir10) ext2 rfl (by kernel_rfl) hl hb
theorem run11 {args:List V} {h:H} {K:Out→H→Prop} (hl:args.length ≤ ir11.ntmps) (hb:codeT R ir11.body ⟨args0 args,fun _=>none,0,[],h⟩ (endK [.tmp 0 false] K) ⟨⟩):R 11 args h K:=runs_fn (F:=ir11) ext2 rfl (by kernel_rfl) hl hb
theorem run12 {args:List V} {h:H} {K:Out→H→Prop} (hl:args.length ≤ ir12.ntmps) (hb:codeT R ir12.body ⟨args0 args,fun _=>none,0,[],h⟩ (endK [.tmp 6 false] K) ⟨⟩):R 12 args h K:=runs_fn (F:=ir12) ext2 rfl (by kernel_rfl) hl hb
theorem run13 {args:List V} {h:H} {K:Out→H→Prop} (hl:args.length ≤ ir13.ntmps) (hb:codeT R ir13.body ⟨args0 args,fun _=>none,0,[],h⟩ (endK [.tmp 4 false,.tmp 5 false] K) ⟨⟩):R 13 args h K:=runs_fn (F:=ir13) ext2 rfl (by kernel_rfl) hl hb
theorem run15 {args:List V} {h:H} {K:Out→H→Prop} (hl:args.length ≤ ir15.ntmps) (hb:codeT R ir15.body ⟨args0 args,fun _=>none,0,[],h⟩ (endK [.tmp 4 false] K) ⟨⟩):R 15 args h K:=runs_fn (F:=ir15) ext2 rfl (by kernel_rfl) hl hb
theorem run16 {args:List V} {h:H} {K:Out→H→Prop} (hl:args.length ≤ ir16.ntmps) (hb:codeT R ir16.body ⟨args0 args,fun _=>none,0,[],h⟩ (endK [.tmp 4 false] K) ⟨⟩):R 16 args h K:=runs_fn (F:=ir16) ext2 rfl (by kernel_rfl) hl hb
theorem run17 {args:List V} {h:H} {K:Out→H→Prop} (hl:args.length ≤ ir17.ntmps) (hb:codeT R ir17.body ⟨args0 args,fun _=>none,0,[],h⟩ (endK [.cell 2 5 true false] K) ⟨⟩):R 17 args h K:=runs_fn (F:=ir17) ext2 rfl (by kernel_rfl) hl hb
theorem run18 {args:List V} {h:H} {K:Out→H→Prop} (hl:args.length ≤ ir18.ntmps) (hb:codeT R ir18.body ⟨args0 args,fun _=>none,0,[],h⟩ (endK [.cell 6 5 true false] K) ⟨⟩):R 18 args h K:=runs_fn (F:=ir18) ext2 rfl (by kernel_rfl) hl hb
theorem run19 {args:List V} {h:H} {K:Out→H→Prop} (hl:args.length ≤ ir19.ntmps) (hb:codeT R ir19.body ⟨args0 args,fun _=>none,0,[],h⟩ (endK [.cell 4 3 true false] K) ⟨⟩):R 19 args h K:=runs_fn (F:=ir19) ext2 rfl (by kernel_rfl) hl hb
theorem run20 {args:List V} {h:H} {K:Out→H→Prop} (hl:args.length ≤ ir20.ntmps) (hb:codeT R ir20.body ⟨args0 args,fun _=>none,0,[],h⟩ (endK [.cell 2 5 true false] K) ⟨⟩):R 20 args h K:=runs_fn (F:=ir20) ext2 rfl (by kernel_rfl) hl hb
theorem run21 {args:List V} {h:H} {K:Out→H→Prop} (hl:args.length ≤ ir21.ntmps) (hb:codeT R ir21.body ⟨args0 args,fun _=>none,0,[],h⟩ (endK [.cell 2 5 true false] K) ⟨⟩):R 21 args h K:=runs_fn (F:=ir21) ext2 rfl (by kernel_rfl) hl hb
theorem run22 {args:List V} {h:H} {K:Out→H→Prop} (hl:args.length ≤ ir22.ntmps) (hb:codeT R ir22.body ⟨args0 args,fun _=>none,0,[],h⟩ (endK [.cell 2 5 true false] K) ⟨⟩):R 22 args h K:=runs_fn (F:=ir22) ext2 rfl (by kernel_rfl) hl hb
theorem run24 {args:List V} {h:H} {K:Out→H→Prop} (hl:args.length ≤ ir24.ntmps) (hb:codeT R ir24.body ⟨args0 args,fun _=>none,0,[],h⟩ (endK [.tmp 2 false,.tmp 3 false] K) ⟨⟩):R 24 args h K:=runs_fn (F:=ir24) ext2 rfl (by kernel_rfl) hl hb
theorem run25 {args:List V} {h:H} {K:Out→H→Prop} (hl:args.length ≤ ir25.ntmps) (hb:codeT R ir25.body ⟨args0 args,fun _=>none,0,[],h⟩ (endK [.tmp 4 false] K) ⟨⟩):R 25 args h K:=runs_fn (F:=ir25) ext2 rfl (by kernel_rfl) hl hb
theorem run26 {args:List V} {h:H} {K:Out→H→Prop} (hl:args.length ≤ ir26.ntmps) (hb:codeT R ir26.body ⟨args0 args,fun _=>none,0,[],h⟩ (endK [.tmp 4 false] K) ⟨⟩):R 26 args h K:=runs_fn (F:=ir26) ext2 rfl (by kernel_rfl) hl hb
theorem run27 {args:List V} {h:H} {K:Out→H→Prop} (hl:args.length ≤ ir27.ntmps) (hb:codeT R ir27.body ⟨args0 args,fun _=>none,0,[],h⟩ (endK [.tmp 2 false] K) ⟨⟩):R 27 args h K:=runs_fn (F:=ir27) ext2 rfl (by kernel_rfl) hl hb
theorem run28 {args:List V} {h:H} {K:Out→H→Prop} (hl:args.length ≤ ir28.ntmps) (hb:codeT R ir28.body ⟨args0 args,fun _=>none,0,[],h⟩ (endK [.tmp 2 false] K) ⟨⟩):R 28 args h K:=runs_fn (F:=ir28) ext2 rfl (by kernel_rfl) hl hb
theorem run30 {args:List V} {h:H} {K:Out→H→Prop} (hl:args.length ≤ ir30.ntmps) (hb:codeT R ir30.body ⟨args0 args,fun _=>none,0,[],h⟩ (endK [] K) ⟨⟩):R 30 args h K:=runs_fn (F:=ir30) ext2 rfl (by kernel_rfl) hl hb
theorem run32 {args:List V} {h:H} {K:Out→H→Prop} (hl:args.length ≤ ir32.ntmps) (hb:codeT R ir32.body ⟨args0 args,fun _=>none,0,[],h⟩ (endK [.tmp 2 false] K) ⟨⟩):R 32 args h K:=runs_fn (F:=ir32) ext2 rfl (by kernel_rfl) hl hb
theorem run35 {args:List V} {h:H} {K:Out→H→Prop} (hl:args.length ≤ ir35.ntmps) (hb:codeT R ir35.body ⟨args0 args,fun _=>none,0,[],h⟩ (endK [.tmp 2 false] K) ⟨⟩):R 35 args h K:=runs_fn (F:=ir35) ext2 rfl (by kernel_rfl) hl hb
theorem run36 {args:List V} {h:H} {K:Out→H→Prop} (hl:args.length ≤ ir36.ntmps) (hb:codeT R ir36.body ⟨args0 args,fun _=>none,0,[],h⟩ (endK [.tmp 4 false] K) ⟨⟩):R 36 args h K:=runs_fn (F:=ir36) ext2 rfl (by kernel_rfl) hl hb
theorem run38 {args:List V} {h:H} {K:Out→H→Prop} (hl:args.length ≤ ir38.ntmps) (hb:codeT R ir38.body ⟨args0 args,fun _=>none,0,[],h⟩ (endK [.tmp 2 false] K) ⟨⟩):R 38 args h K:=runs_fn (F:=ir38) ext2 rfl (by kernel_rfl) hl hb
theorem run39 {args:List V} {h:H} {K:Out→H→Prop} (hl:args.length ≤ ir39.ntmps) (hb:codeT R ir39.body ⟨args0 args,fun _=>none,0,[],h⟩ (endK [.tmp 6 false] K) ⟨⟩):R 39 args h K:=runs_fn (F:=ir39) ext2 rfl (by kernel_rfl) hl hb
theorem run40 {args:List V} {h:H} {K:Out→H→Prop} (hl:args.length ≤ ir40.ntmps) (hb:codeT R ir40.body ⟨args0 args,fun _=>none,0,[],h⟩ (endK [.tmp 2 false] K) ⟨⟩):R 40 args h K:=runs_fn (F:=ir40) ext2 rfl (by kernel_rfl) hl hb
theorem run41 {args:List V} {h:H} {K:Out→H→Prop} (hl:args.length ≤ ir41.ntmps) (hb:codeT R ir41.body ⟨args0 args,fun _=>none,0,[],h⟩ (endK [.tmp 4 false] K) ⟨⟩):R 41 args h K:=runs_fn (F:=ir41) ext2 rfl (by kernel_rfl) hl hb
theorem run42 {args:List V} {h:H} {K:Out→H→Prop} (hl:args.length ≤ ir42.ntmps) (hb:codeT R ir42.body ⟨args0 args,fun _=>none,0,[],h⟩ (endK [.tmp 2 false] K) ⟨⟩):R 42 args h K:=runs_fn (F:=ir42) ext2 rfl (by kernel_rfl) hl hb
theorem run44 {args:List V} {h:H} {K:Out→H→Prop} (hl:args.length ≤ ir44.ntmps) (hb:codeT R ir44.body ⟨args0 args,fun _=>none,0,[],h⟩ (endK [.tmp 4 false] K) ⟨⟩):R 44 args h K:=runs_fn (F:=ir44) ext2 rfl (by kernel_rfl) hl hb
theorem run45 {args:List V} {h:H} {K:Out→H→Prop} (hl:args.length ≤ ir45.ntmps) (hb:codeT R ir45.body ⟨args0 args,fun _=>none,0,[],h⟩ (endK [] K) ⟨⟩):R 45 args h K:=runs_fn (F:=ir45) ext2 rfl (by kernel_rfl) hl hb
theorem run50 {args:List V} {h:H} {K:Out→H→Prop} (hl:args.length ≤ ir50.ntmps) (hb:codeT R ir50.body ⟨args0 args,fun _=>none,0,[],h⟩ (endK [.tmp 2 false] K) ⟨⟩):R 50 args h K:=runs_fn (F:=ir50) ext2 rfl (by kernel_rfl) hl hb
theorem run52 {args:List V} {h:H} {K:Out→H→Prop} (hl:args.length ≤ ir52.ntmps) (hb:codeT R ir52.body ⟨args0 args,fun _=>none,0,[],h⟩ (endK [.tmp 4 false] K) ⟨⟩):R 52 args h K:=runs_fn (F:=ir52) ext2 rfl (by kernel_rfl) hl hb
theorem run53 {args:List V} {h:H} {K:Out→H→Prop} (hl:args.length ≤ ir53.ntmps) (hb:codeT R ir53.body ⟨args0 args,fun _=>none,0,[],h⟩ (endK [] K) ⟨⟩):R 53 args h K:=runs_fn (F:=ir53) ext2 rfl (by kernel_rfl) hl hb
theorem run54 {args:List V} {h:H} {K:Out→H→Prop} (hl:args.length ≤ ir54.ntmps) (hb:codeT R ir54.body ⟨args0 args,fun _=>none,0,[],h⟩ (endK [] K) ⟨⟩):R 54 args h K:=runs_fn (F:=ir54) ext2 rfl (by kernel_rfl) hl hb
theorem run55 {args:List V} {h:H} {K:Out→H→Prop} (hl:args.length ≤ ir55.ntmps) (hb:codeT R ir55.body ⟨args0 args,fun _=>none,0,[],h⟩ (endK [.tmp 6 false] K) ⟨⟩):R 55 args h K:=runs_fn (F:=ir55) ext2 rfl (by kernel_rfl) hl hb
theorem run56 {args:List V} {h:H} {K:Out→H→Prop} (hl:args.length ≤ ir56.ntmps) (hb:codeT R ir56.body ⟨args0 args,fun _=>none,0,[],h⟩ (endK [.tmp 2 false] K) ⟨⟩):R 56 args h K:=runs_fn (F:=ir56) ext2 rfl (by kernel_rfl) hl hb
theorem run57 {args:List V} {h:H} {K:Out→H→Prop} (hl:args.length ≤ ir57.ntmps) (hb:codeT R ir57.body ⟨args0 args,fun _=>none,0,[],h⟩ (endK [.tmp 4 false] K) ⟨⟩):R 57 args h K:=runs_fn (F:=ir57) ext2 rfl (by kernel_rfl) hl hb
theorem run58 {args:List V} {h:H} {K:Out→H→Prop} (hl:args.length ≤ ir58.ntmps) (hb:codeT R ir58.body ⟨args0 args,fun _=>none,0,[],h⟩ (endK [.tmp 2 false] K) ⟨⟩):R 58 args h K:=runs_fn (F:=ir58) ext2 rfl (by kernel_rfl) hl hb
theorem run59 {args:List V} {h:H} {K:Out→H→Prop} (hl:args.length ≤ ir59.ntmps) (hb:codeT R ir59.body ⟨args0 args,fun _=>none,0,[],h⟩ (endK [.tmp 4 false] K) ⟨⟩):R 59 args h K:=runs_fn (F:=ir59) ext2 rfl (by kernel_rfl) hl hb
theorem run60 {args:List V} {h:H} {K:Out→H→Prop} (hl:args.length ≤ ir60.ntmps) (hb:codeT R ir60.body ⟨args0 args,fun _=>none,0,[],h⟩ (endK [.tmp 2 false] K) ⟨⟩):R 60 args h K:=runs_fn (F:=ir60) ext2 rfl (by kernel_rfl) hl hb
theorem run61 {args:List V} {h:H} {K:Out→H→Prop} (hl:args.length ≤ ir61.ntmps) (hb:codeT R ir61.body ⟨args0 args,fun _=>none,0,[],h⟩ (endK [.tmp 4 false] K) ⟨⟩):R 61 args h K:=runs_fn (F:=ir61) ext2 rfl (by kernel_rfl) hl hb
theorem run62 {args:List V} {h:H} {K:Out→H→Prop} (hl:args.length ≤ ir62.ntmps) (hb:codeT R ir62.body ⟨args0 args,fun _=>none,0,[],h⟩ (endK [.tmp 2 false] K) ⟨⟩):R 62 args h K:=runs_fn (F:=ir62) ext2 rfl (by kernel_rfl) hl hb
theorem run65 {args:List V} {h:H} {K:Out→H→Prop} (hl:args.length ≤ ir65.ntmps) (hb:codeT R ir65.body ⟨args0 args,fun _=>none,0,[],h⟩ (endK [.tmp 2 false] K) ⟨⟩):R 65 args h K:=runs_fn (F:=ir65) ext2 rfl (by kernel_rfl) hl hb
theorem run66 {args:List V} {h:H} {K:Out→H→Prop} (hl:args.length ≤ ir66.ntmps) (hb:codeT R ir66.body ⟨args0 args,fun _=>none,0,[],h⟩ (endK [] K) ⟨⟩):R 66 args h K:=runs_fn (F:=ir66) ext2 rfl (by kernel_rfl) hl hb
theorem run67 {args:List V} {h:H} {K:Out→H→Prop} (hl:args.length ≤ ir67.ntmps) (hb:codeT R ir67.body ⟨args0 args,fun _=>none,0,[],h⟩ (endK [] K) ⟨⟩):R 67 args h K:=runs_fn (F:=ir67) ext2 rfl (by kernel_rfl) hl hb
theorem run68 {args:List V} {h:H} {K:Out→H→Prop} (hl:args.length ≤ ir68.ntmps) (hb:codeT R ir68.body ⟨args0 args,fun _=>none,0,[],h⟩ (endK [.tmp 4 false] K) ⟨⟩):R 68 args h K:=runs_fn (F:=ir68) ext2 rfl (by kernel_rfl) hl hb
theorem run69 {args:List V} {h:H} {K:Out→H→Prop} (hl:args.length ≤ ir69.ntmps) (hb:codeT R ir69.body ⟨args0 args,fun _=>none,0,[],h⟩ (endK [.tmp 2 false] K) ⟨⟩):R 69 args h K:=runs_fn (F:=ir69) ext2 rfl (by kernel_rfl) hl hb
theorem run70 {args:List V} {h:H} {K:Out→H→Prop} (hl:args.length ≤ ir70.ntmps) (hb:codeT R ir70.body ⟨args0 args,fun _=>none,0,[],h⟩ (endK [.tmp 4 false] K) ⟨⟩):R 70 args h K:=runs_fn (F:=ir70) ext2 rfl (by kernel_rfl) hl hb
theorem run71 {args:List V} {h:H} {K:Out→H→Prop} (hl:args.length ≤ ir71.ntmps) (hb:codeT R ir71.body ⟨args0 args,fun _=>none,0,[],h⟩ (endK [.tmp 2 false] K) ⟨⟩):R 71 args h K:=runs_fn (F:=ir71) ext2 rfl (by kernel_rfl) hl hb
theorem run72 {args:List V} {h:H} {K:Out→H→Prop} (hl:args.length ≤ ir72.ntmps) (hb:codeT R ir72.body ⟨args0 args,fun _=>none,0,[],h⟩ (endK [.tmp 2 false] K) ⟨⟩):R 72 args h K:=runs_fn (F:=ir72) ext2 rfl (by kernel_rfl) hl hb
theorem run76 {args:List V} {h:H} {K:Out→H→Prop} (hl:args.length ≤ ir76.ntmps) (hb:codeT R ir76.body ⟨args0 args,fun _=>none,0,[],h⟩ (endK [.tmp 4 false] K) ⟨⟩):R 76 args h K:=runs_fn (F:=ir76) ext2 rfl (by kernel_rfl) hl hb
theorem run77 {args:List V} {h:H} {K:Out→H→Prop} (hl:args.length ≤ ir77.ntmps) (hb:codeT R ir77.body ⟨args0 args,fun _=>none,0,[],h⟩ (endK [] K) ⟨⟩):R 77 args h K:=runs_fn (F:=ir77) ext2 rfl (by kernel_rfl) hl hb
theorem run78 {args:List V} {h:H} {K:Out→H→Prop} (hl:args.length ≤ ir78.ntmps) (hb:codeT R ir78.body ⟨args0 args,fun _=>none,0,[],h⟩ (endK [] K) ⟨⟩):R 78 args h K:=runs_fn (F:=ir78) ext2 rfl (by kernel_rfl) hl hb
theorem run79 {args:List V} {h:H} {K:Out→H→Prop} (hl:args.length ≤ ir79.ntmps) (hb:codeT R ir79.body ⟨args0 args,fun _=>none,0,[],h⟩ (endK [] K) ⟨⟩):R 79 args h K:=runs_fn (F:=ir79) ext2 rfl (by kernel_rfl) hl hb
theorem run80 {args:List V} {h:H} {K:Out→H→Prop} (hl:args.length ≤ ir80.ntmps) (hb:codeT R ir80.body ⟨args0 args,fun _=>none,0,[],h⟩ (endK [.cell 4 4 true false] K) ⟨⟩):R 80 args h K:=runs_fn (F:=ir80) ext2 rfl (by kernel_rfl) hl hb
theorem run81 {args:List V} {h:H} {K:Out→H→Prop} (hl:args.length ≤ ir81.ntmps) (hb:codeT R ir81.body ⟨args0 args,fun _=>none,0,[],h⟩ (endK [.tmp 2 false] K) ⟨⟩):R 81 args h K:=runs_fn (F:=ir81) ext2 rfl (by kernel_rfl) hl hb
theorem run82 {args:List V} {h:H} {K:Out→H→Prop} (hl:args.length ≤ ir82.ntmps) (hb:codeT R ir82.body ⟨args0 args,fun _=>none,0,[],h⟩ (endK [.tmp 4 false] K) ⟨⟩):R 82 args h K:=runs_fn (F:=ir82) ext2 rfl (by kernel_rfl) hl hb
theorem run83 {args:List V} {h:H} {K:Out→H→Prop} (hl:args.length ≤ ir83.ntmps) (hb:codeT R ir83.body ⟨args0 args,fun _=>none,0,[],h⟩ (endK [.tmp 2 false] K) ⟨⟩):R 83 args h K:=runs_fn (F:=ir83) ext2 rfl (by kernel_rfl) hl hb
theorem run84 {args:List V} {h:H} {K:Out→H→Prop} (hl:args.length ≤ ir84.ntmps) (hb:codeT R ir84.body ⟨args0 args,fun _=>none,0,[],h⟩ (endK [.tmp 2 false] K) ⟨⟩):R 84 args h K:=runs_fn (F:=ir84) ext2 rfl (by kernel_rfl) hl hb
theorem run87 {args:List V} {h:H} {K:Out→H→Prop} (hl:args.length ≤ ir87.ntmps) (hb:codeT R ir87.body ⟨args0 args,fun _=>none,0,[],h⟩ (endK [.tmp 2 false] K) ⟨⟩):R 87 args h K:=runs_fn (F:=ir87) ext2 rfl (by kernel_rfl) hl hb
theorem run88 {args:List V} {h:H} {K:Out→H→Prop} (hl:args.length ≤ ir88.ntmps) (hb:codeT R ir88.body ⟨args0 args,fun _=>none,0,[],h⟩ (endK [.cell 2 4 true false] K) ⟨⟩):R 88 args h K:=runs_fn (F:=ir88) ext2 rfl (by kernel_rfl) hl hb
theorem run89 {args:List V} {h:H} {K:Out→H→Prop} (hl:args.length ≤ ir89.ntmps) (hb:codeT R ir89.body ⟨args0 args,fun _=>none,0,[],h⟩ (endK [.cell 4 4 true false] K) ⟨⟩):R 89 args h K:=runs_fn (F:=ir89) ext2 rfl (by kernel_rfl) hl hb
theorem run90 {args:List V} {h:H} {K:Out→H→Prop} (hl:args.length ≤ ir90.ntmps) (hb:codeT R ir90.body ⟨args0 args,fun _=>none,0,[],h⟩ (endK [.cell 4 4 true false] K) ⟨⟩):R 90 args h K:=runs_fn (F:=ir90) ext2 rfl (by kernel_rfl) hl hb
theorem run91 {args:List V} {h:H} {K:Out→H→Prop} (hl:args.length ≤ ir91.ntmps) (hb:codeT R ir91.body ⟨args0 args,fun _=>none,0,[],h⟩ (endK [.cell 6 4 true false] K) ⟨⟩):R 91 args h K:=runs_fn (F:=ir91) ext2 rfl (by kernel_rfl) hl hb
theorem run92 {args:List V} {h:H} {K:Out→H→Prop} (hl:args.length ≤ ir92.ntmps) (hb:codeT R ir92.body ⟨args0 args,fun _=>none,0,[],h⟩ (endK [.cell 6 4 true false] K) ⟨⟩):R 92 args h K:=runs_fn (F:=ir92) ext2 rfl (by kernel_rfl) hl hb
theorem run102 {args:List V} {h:H} {K:Out→H→Prop} (hl:args.length ≤ ir102.ntmps) (hb:codeT R ir102.body ⟨args0 args,fun _=>none,0,[],h⟩ (endK [.cell 2 4 true false] K) ⟨⟩):R 102 args h K:=runs_fn (F:=ir102) ext2 rfl (by kernel_rfl) hl hb
end Go.Ab.YtljoifdccjcidaaDoor
