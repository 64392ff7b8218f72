/- The environment of this seat: its functions in the small language, and that what they do is what the program does. -/
import Derived.Test.YtgnpliafpklfcaaAb28
import Derived.Test.YtgnpliafpklfcaaIr
set_option linter.unusedVariables false
set_option maxRecDepth 100000
namespace Go.Ab.Ytgnpliafpklfcaa

def irs : List (Nat × IFn) := [(3, ir3), (4, ir4), (5, ir5), (6, ir6), (7, ir7), (8, ir8), (9, ir9), (10, ir10), (11, ir11), (12, ir12), (13, ir13), (14, ir14), (15, ir15), (16, ir16), (17, ir17), (18, ir18), (19, ir19), (20, ir20), (21, ir21), (22, ir22), (23, ir23), (24, ir24), (26, ir26)]

def env : Env := ⟨fun f => (irs.find? (·.1 == f)).map (·.2), fun _ => none⟩

abbrev R : CallT := Runs env

theorem ext2 : ExtOK2 env := { le := fun f x h => (by cases h), cont := fun f x h => (by cases h) }

theorem mono : MonoT R := runs_mono ext2.toExtOK

def Good (x : Nat × IFn) : Prop := ∃ fn hs, Go.Proofs.Try.prog.funcs[x.1]? = some fn ∧ fn.name ≠ "runtime.NumGoroutine" ∧ trF Go.Proofs.Try.prog hs fn = some x.2 ∧ hs.glob = []

theorem good3 : Good (3, ir3) := ⟨Go.Proofs.Try.f3, _, Go.Proofs.Try.func3, by decide +kernel, tr3, rfl⟩
theorem good4 : Good (4, ir4) := ⟨Go.Proofs.Try.f4, _, Go.Proofs.Try.func4, by decide +kernel, tr4, rfl⟩
theorem good5 : Good (5, ir5) := ⟨Go.Proofs.Try.f5, _, Go.Proofs.Try.func5, by decide +kernel, tr5, rfl⟩
theorem good6 : Good (6, ir6) := ⟨Go.Proofs.Try.f6, _, Go.Proofs.Try.func6, by decide +kernel, tr6, rfl⟩
theorem good7 : Good (7, ir7) := ⟨Go.Proofs.Try.f7, _, Go.Proofs.Try.func7, by decide +kernel, tr7, rfl⟩
theorem good8 : Good (8, ir8) := ⟨Go.Proofs.Try.f8, _, Go.Proofs.Try.func8, by decide +kernel, tr8, rfl⟩
theorem good9 : Good (9, ir9) := ⟨Go.Proofs.Try.f9, _, Go.Proofs.Try.func9, by decide +kernel, tr9, rfl⟩
theorem good10 : Good (10, ir10) := ⟨Go.Proofs.Try.f10, _, Go.Proofs.Try.func10, by decide +kernel, tr10, rfl⟩
theorem good11 : Good (11, ir11) := ⟨Go.Proofs.Try.f11, _, Go.Proofs.Try.func11, by decide +kernel, tr11, rfl⟩
theorem good12 : Good (12, ir12) := ⟨Go.Proofs.Try.f12, _, Go.Proofs.Try.func12, by decide +kernel, tr12, rfl⟩
theorem good13 : Good (13, ir13) := ⟨Go.Proofs.Try.f13, _, Go.Proofs.Try.func13, by decide +kernel, tr13, rfl⟩
theorem good14 : Good (14, ir14) := ⟨Go.Proofs.Try.f14, _, Go.Proofs.Try.func14, by decide +kernel, tr14, rfl⟩
theorem good15 : Good (15, ir15) := ⟨Go.Proofs.Try.f15, _, Go.Proofs.Try.func15, by decide +kernel, tr15, rfl⟩
theorem good16 : Good (16, ir16) := ⟨Go.Proofs.Try.f16, _, Go.Proofs.Try.func16, by decide +kernel, tr16, rfl⟩
theorem good17 : Good (17, ir17) := ⟨Go.Proofs.Try.f17, _, Go.Proofs.Try.func17, by decide +kernel, tr17, rfl⟩
theorem good18 : Good (18, ir18) := ⟨Go.Proofs.Try.f18, _, Go.Proofs.Try.func18, by decide +kernel, tr18, rfl⟩
theorem good19 : Good (19, ir19) := ⟨Go.Proofs.Try.f19, _, Go.Proofs.Try.func19, by decide +kernel, tr19, rfl⟩
theorem good20 : Good (20, ir20) := ⟨Go.Proofs.Try.f20, _, Go.Proofs.Try.func20, by decide +kernel, tr20, rfl⟩
theorem good21 : Good (21, ir21) := ⟨Go.Proofs.Try.f21, _, Go.Proofs.Try.func21, by decide +kernel, tr21, rfl⟩
theorem good22 : Good (22, ir22) := ⟨Go.Proofs.Try.f22, _, Go.Proofs.Try.func22, by decide +kernel, tr22, rfl⟩
theorem good23 : Good (23, ir23) := ⟨Go.Proofs.Try.f23, _, Go.Proofs.Try.func23, by decide +kernel, tr23, rfl⟩
theorem good24 : Good (24, ir24) := ⟨Go.Proofs.Try.f24, _, Go.Proofs.Try.func24, by decide +kernel, tr24, rfl⟩
theorem good26 : Good (26, ir26) := ⟨Go.Proofs.Try.f26, _, Go.Proofs.Try.func26, by decide +kernel, tr26, rfl⟩

theorem goods : ∀ x ∈ irs, Good x := by
  intro x hx
  simp only [irs, List.mem_cons, List.not_mem_nil, or_false] at hx
  rcases hx with rfl | rfl | rfl | rfl | rfl | rfl | rfl | rfl | rfl | rfl | rfl | rfl | rfl | rfl | rfl | rfl | rfl | rfl | rfl | rfl | rfl | rfl | rfl
  · exact good3
  · exact good4
  · exact good5
  · exact good6
  · exact good7
  · exact good8
  · exact good9
  · exact good10
  · exact good11
  · exact good12
  · exact good13
  · exact good14
  · exact good15
  · exact good16
  · exact good17
  · exact good18
  · exact good19
  · exact good20
  · exact good21
  · exact good22
  · exact good23
  · exact good24
  · exact good26

theorem envOK : EnvOK Go.Proofs.Try.prog [] env where
  ir f F h := by
    simp only [env, Option.map_eq_some_iff] at h
    obtain ⟨x, h1, rfl⟩ := h
    have h2 := List.find?_some h1
    have h2 : x.1 = f := by simpa using h2
    subst h2
    obtain ⟨fn, hs, p, q, r, s⟩ := goods x (List.mem_of_find?_eq_some h1)
    exact ⟨fn, hs, p, q, r, fun g cells hm => by rw [s] at hm; simp at hm⟩
  ext f x h := by cases h

theorem callOK : ∀ n, CallOK Go.Proofs.Try.prog [] (call env n) :=
  call_sound envOK (fun hs N hG => draw_ok hG (by kernel_rfl)) (fun n => call_mono ext2.toExtOK n)

theorem run3 {args : List V} {h : H} {K : Out → H → Prop} (hl : args.length ≤ ir3.ntmps) (hb : codeT R ir3.body ⟨args0 args, fun _ => none, 0, [], h⟩ (endK [.tmp 4] K) ⟨⟩) : R 3 args h K := runs_fn ext2 rfl rfl hl hb
theorem run4 {args : List V} {h : H} {K : Out → H → Prop} (hl : args.length ≤ ir4.ntmps) (hb : codeT R ir4.body ⟨args0 args, fun _ => none, 0, [], h⟩ (endK [.tmp 6] K) ⟨⟩) : R 4 args h K := runs_fn ext2 rfl rfl hl hb
theorem run5 {args : List V} {h : H} {K : Out → H → Prop} (hl : args.length ≤ ir5.ntmps) (hb : codeT R ir5.body ⟨args0 args, fun _ => none, 0, [], h⟩ (endK [.tmp 6] K) ⟨⟩) : R 5 args h K := runs_fn ext2 rfl rfl hl hb
theorem run6 {args : List V} {h : H} {K : Out → H → Prop} (hl : args.length ≤ ir6.ntmps) (hb : codeT R ir6.body ⟨args0 args, fun _ => none, 0, [], h⟩ (endK [.tmp 6] K) ⟨⟩) : R 6 args h K := runs_fn ext2 rfl rfl hl hb
theorem run7 {args : List V} {h : H} {K : Out → H → Prop} (hl : args.length ≤ ir7.ntmps) (hb : codeT R ir7.body ⟨args0 args, fun _ => none, 0, [], h⟩ (endK [.tmp 6] K) ⟨⟩) : R 7 args h K := runs_fn ext2 rfl rfl hl hb
theorem run8 {args : List V} {h : H} {K : Out → H → Prop} (hl : args.length ≤ ir8.ntmps) (hb : codeT R ir8.body ⟨args0 args, fun _ => none, 0, [], h⟩ (endK [.tmp 0] K) ⟨⟩) : R 8 args h K := runs_fn ext2 rfl rfl hl hb
theorem run9 {args : List V} {h : H} {K : Out → H → Prop} (hl : args.length ≤ ir9.ntmps) (hb : codeT R ir9.body ⟨args0 args, fun _ => none, 0, [], h⟩ (endK [.tmp 2] K) ⟨⟩) : R 9 args h K := runs_fn ext2 rfl rfl hl hb
theorem run10 {args : List V} {h : H} {K : Out → H → Prop} (hl : args.length ≤ ir10.ntmps) (hb : codeT R ir10.body ⟨args0 args, fun _ => none, 0, [], h⟩ (endK [.tmp 2] K) ⟨⟩) : R 10 args h K := runs_fn ext2 rfl rfl hl hb
theorem run11 {args : List V} {h : H} {K : Out → H → Prop} (hl : args.length ≤ ir11.ntmps) (hb : codeT R ir11.body ⟨args0 args, fun _ => none, 0, [], h⟩ (endK [.tmp 4, .tmp 5] K) ⟨⟩) : R 11 args h K := runs_fn ext2 rfl rfl hl hb
theorem run12 {args : List V} {h : H} {K : Out → H → Prop} (hl : args.length ≤ ir12.ntmps) (hb : codeT R ir12.body ⟨args0 args, fun _ => none, 0, [], h⟩ (endK [.tmp 4, .tmp 5] K) ⟨⟩) : R 12 args h K := runs_fn ext2 rfl rfl hl hb
theorem run13 {args : List V} {h : H} {K : Out → H → Prop} (hl : args.length ≤ ir13.ntmps) (hb : codeT R ir13.body ⟨args0 args, fun _ => none, 0, [], h⟩ (endK [.tmp 4] K) ⟨⟩) : R 13 args h K := runs_fn ext2 rfl rfl hl hb
theorem run14 {args : List V} {h : H} {K : Out → H → Prop} (hl : args.length ≤ ir14.ntmps) (hb : codeT R ir14.body ⟨args0 args, fun _ => none, 0, [], h⟩ (endK [.tmp 2] K) ⟨⟩) : R 14 args h K := runs_fn ext2 rfl rfl hl hb
theorem run15 {args : List V} {h : H} {K : Out → H → Prop} (hl : args.length ≤ ir15.ntmps) (hb : codeT R ir15.body ⟨args0 args, fun _ => none, 0, [], h⟩ (endK [.tmp 2] K) ⟨⟩) : R 15 args h K := runs_fn ext2 rfl rfl hl hb
theorem run16 {args : List V} {h : H} {K : Out → H → Prop} (hl : args.length ≤ ir16.ntmps) (hb : codeT R ir16.body ⟨args0 args, fun _ => none, 0, [], h⟩ (endK [.tmp 2] K) ⟨⟩) : R 16 args h K := runs_fn ext2 rfl rfl hl hb
theorem run17 {args : List V} {h : H} {K : Out → H → Prop} (hl : args.length ≤ ir17.ntmps) (hb : codeT R ir17.body ⟨args0 args, fun _ => none, 0, [], h⟩ (endK [.tmp 2] K) ⟨⟩) : R 17 args h K := runs_fn ext2 rfl rfl hl hb
theorem run18 {args : List V} {h : H} {K : Out → H → Prop} (hl : args.length ≤ ir18.ntmps) (hb : codeT R ir18.body ⟨args0 args, fun _ => none, 0, [], h⟩ (endK [.tmp 2] K) ⟨⟩) : R 18 args h K := runs_fn ext2 rfl rfl hl hb
theorem run19 {args : List V} {h : H} {K : Out → H → Prop} (hl : args.length ≤ ir19.ntmps) (hb : codeT R ir19.body ⟨args0 args, fun _ => none, 0, [], h⟩ (endK [.tmp 6] K) ⟨⟩) : R 19 args h K := runs_fn ext2 rfl rfl hl hb
theorem run20 {args : List V} {h : H} {K : Out → H → Prop} (hl : args.length ≤ ir20.ntmps) (hb : codeT R ir20.body ⟨args0 args, fun _ => none, 0, [], h⟩ (endK [.tmp 6] K) ⟨⟩) : R 20 args h K := runs_fn ext2 rfl rfl hl hb
theorem run21 {args : List V} {h : H} {K : Out → H → Prop} (hl : args.length ≤ ir21.ntmps) (hb : codeT R ir21.body ⟨args0 args, fun _ => none, 0, [], h⟩ (endK [.tmp 0] K) ⟨⟩) : R 21 args h K := runs_fn ext2 rfl rfl hl hb
theorem run22 {args : List V} {h : H} {K : Out → H → Prop} (hl : args.length ≤ ir22.ntmps) (hb : codeT R ir22.body ⟨args0 args, fun _ => none, 0, [], h⟩ (endK [.tmp 4] K) ⟨⟩) : R 22 args h K := runs_fn ext2 rfl rfl hl hb
theorem run23 {args : List V} {h : H} {K : Out → H → Prop} (hl : args.length ≤ ir23.ntmps) (hb : codeT R ir23.body ⟨args0 args, fun _ => none, 0, [], h⟩ (endK [.tmp 6] K) ⟨⟩) : R 23 args h K := runs_fn ext2 rfl rfl hl hb
theorem run24 {args : List V} {h : H} {K : Out → H → Prop} (hl : args.length ≤ ir24.ntmps) (hb : codeT R ir24.body ⟨args0 args, fun _ => none, 0, [], h⟩ (endK [.tmp 2] K) ⟨⟩) : R 24 args h K := runs_fn ext2 rfl rfl hl hb
theorem run26 {args : List V} {h : H} {K : Out → H → Prop} (hl : args.length ≤ ir26.ntmps) (hb : codeT R ir26.body ⟨args0 args, fun _ => none, 0, [], h⟩ (endK [.tmp 2] K) ⟨⟩) : R 26 args h K := runs_fn ext2 rfl rfl hl hb

end Go.Ab.Ytgnpliafpklfcaa
