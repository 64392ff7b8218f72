import Derived.Test.YtihmoaibgmhjeaaDoorAb28
import Derived.Test.YtihmoaibgmhjeaaDoorDa
import Derived.Defers
import Derived.Recover
import Derived.Tactics
set_option linter.unusedVariables false
set_option linter.unusedSimpArgs false
namespace Go.Ab
def endD (F : IFn) (tw : TypeId) (h : H) (K : Out → H → Prop) : Ex → S → Prop := fun e st => match e with
 | .normal | .ret => match finish st F.results with
  | some v => K (.ret v) st.h
  | none => False
 | .pan v => ∃ n x0 x1, v = .iface tw (.agg [.int .i64 n]) ∧ st.h.objs h.next = some (.cells [x0]) ∧ st.h.objs (h.next + 1) = some (.cells [x1]) ∧
   K (.ret (.tuple [.int .i64 0, .int .i64 n])) ((st.h.set h.next (.cells [.int .i64 0])).set (h.next + 1) (.cells [.int .i64 n]))
 | .brk _ => False
def deferX (F : IFn) (tw : TypeId) : CallT → List V → H → (Out → H → Prop) → Prop := fun call args h K =>
 args.length = 1 ∧ ∃ fuel, code call fuel F.body ⟨args0 args, fun _ => none, 0, [], h⟩ (endD F tw h K)
theorem endD_le {F : IFn} {tw : TypeId} {h : H} {K K' : Out → H → Prop} (hK : ∀ o h', K o h' → K' o h') : ∀ e st, endD F tw h K e st → endD F tw h K' e st := by
 intro e st he
 cases e with
 | normal => simp only [endD] at he ⊢; split at he <;> first | exact hK _ _ he | exact he.elim
 | ret => simp only [endD] at he ⊢; split at he <;> first | exact hK _ _ he | exact he.elim
 | pan v => obtain ⟨n, x0, x1, a, b, c, d⟩ := he; exact ⟨n, x0, x1, a, b, c, hK _ _ d⟩
 | brk i => exact he
theorem deferX_le {F : IFn} {tw : TypeId} (call call2 : CallT) (hc : Le2 call call2) (args : List V) (h : H) (K K' : Out → H → Prop) (hK : ∀ o h', K o h' → K' o h') (hx : deferX F tw call args h K) : deferX F tw call2 args h K' := by
 obtain ⟨h1, n, h2⟩ := hx
 exact ⟨h1, n, code_le hc (Nat.le_refl n) (endD_le hK) h2⟩
theorem deferX_cont {F : IFn} {tw : TypeId} (call : CallT) (hc : Cont call) (hm : MonoT call) (args : List V) (h : H) (Q : Nat → Out → H → Prop) (hup : ∀ m m' o h', m ≤ m' → Q m o h' → Q m' o h')
  (hx : deferX F tw call args h (fun o h' => ∃ m, Q m o h')) : ∃ m, deferX F tw call args h (Q m) := by
 obtain ⟨h1, n, h2⟩ := hx
 have : ∃ m, code call n F.body ⟨args0 args, fun _ => none, 0, [], h⟩ (endD F tw h (Q m)) := by
  refine code_cont hc hm (Q := fun m => endD F tw h (Q m)) (fun m m' e st hmm => endD_le (fun o h' => hup m m' o h' hmm) e st) ?_
  refine code_le hm (Nat.le_refl n) (fun e st he => ?_) h2
  cases e with
  | normal =>
   simp only [endD] at he ⊢
   cases hfi : finish st F.results with
   | none => rw [hfi] at he; exact he.elim
   | some v => rw [hfi] at he; exact he
  | ret =>
   simp only [endD] at he ⊢
   cases hfi : finish st F.results with
   | none => rw [hfi] at he; exact he.elim
   | some v => rw [hfi] at he; exact he
  | pan v => obtain ⟨k, x0, x1, a, b, c, m, d⟩ := he; exact ⟨m, k, x0, x1, a, b, c, d⟩
  | brk i => exact he.elim
 obtain ⟨m, hm'⟩ := this
 exact ⟨m, h1, n, hm'⟩
theorem runs_defer {E : Env} (hE : ExtOK2 E) {f : FuncId} {F : IFn} {tw : TypeId} {v : V} {h : H} {K : Out → H → Prop} (hx : E.ext f = some (deferX F tw))
  (hb : codeT (Runs E) F.body ⟨args0 [v], fun _ => none, 0, [], h⟩ (endD F tw h K) ⟨⟩) : Runs E f [v] h K := by
 obtain ⟨n, hn⟩ := codeW_runs hE hb
 exact runs_ext hE hx (n := n) ⟨rfl, n, hn⟩
section
variable {P : Program} {G : List (Nat × List V)} {w : World} {k : Ctx} {h : H}
structure Closure (P : Program) (g : FuncId) (tw : TypeId) (hs : Hints) (F : IFn) where
 gn : Func
 r2 : Code
 i0 : Nat
 i1 : Nat
 p0 : Oper
 p1 : Oper
 p2 : Oper
 p3 : Oper
 ti : TypeId
 ti' : TypeId
 hgn : P.funcs[g]? = some gn
 gname : gn.name ≠ "runtime.NumGoroutine"
 body : gn.body = some (.seq (.region i0 #[p0, p1] false) (.seq (.region i1 #[p2, p3] false) (.cond (.tmp 5) r2 .skip)))
 res : gn.results = #[]
 nt : gn.ntmps = 9
 q0 : p0.dst = some 3 ∧ p0.guard = none ∧ ∃ ty, p0.op = .call ⟨.builtin .recover, #[], ty⟩
 q1 : p1.dst = some 2 ∧ p1.guard = none ∧ p1.op = .assign (.tmp 3)
 q2 : p2.dst = some 4 ∧ p2.guard = none ∧ p2.op = .move (.tmp 2)
 q3 : p3.dst = some 5 ∧ p3.guard = none ∧ p3.op = .binOp .neq ti (.tmp 4) (.const .nilIface) ti'
 tiu : ∃ ms, P.underlying ti = some (.interface ms)
 tr : trF P hs { gn with body := some r2 } = some F
theorem catch_idle {g : FuncId} {tw : TypeId} {hs : Hints} {F : IFn} (c : Closure P g tw hs F) (X Y : Value) (w : World) :
  CallsD P g #[X, Y] .returning w fun e u' w' => (∃ r, e = .returned r) ∧ u' = .returning ∧ w' = w := by
 obtain ⟨gn, r2, i0, i1, p0, p1, p2, p3, ti, ti', hgn, gname, body, res, nt, ⟨a0, b0, ty, c0⟩, ⟨a1, b1, c1⟩, ⟨a2, b2, c2⟩, ⟨a3, b3, c3⟩, ⟨ms, tiu⟩, tr⟩ := c
 refine callsD_of_wpS hgn body fun c₀ cs hu => ?_
 apply wpS_seq
 apply wpS_region
 simp [wpOpsS, go_sem, recoverD, hu, nt, Exit.thenS, a0, b0, c0, a1, b1, c1, Region.wanted]
 apply wpS_seq
 apply wpS_region
 simp [wpOpsS, go_sem, recoverD, hu, nt, Exit.thenS, a2, b2, c2, a3, b3, c3, Region.wanted, tiu]
 refine wpS_cond (t := false) (by simp [Act.eval, Array.replicate]) ?_
 simp only [Bool.false_eq_true, if_false]
 refine wpS_of_wp (wp_skip ?_)
 cases c₀
 simp_all [bodyPostS, results, res]
def wonT (h : H) (j0 j1 : Nat) (n : Int) : H := (h.set j0 (.cells [.int .i64 0])).set j1 (.cells [.int .i64 n])
def rho3 (a b c : V) : Nat → V := fun t => if t = 0 then a else if t = 1 then b else if t = 2 then c else .undef
def Catches (F : IFn) (tw : TypeId) : Prop := ∀ (call : CallT) (fuel : Nat) (h : H) (j0 j1 : Nat) (n : Int) (x0 x1 : V) (K : Ex → S → Prop), j0 ≠ j1 → h.objs j0 = some (.cells [x0]) → h.objs j1 = some (.cells [x1]) →
 (∀ st, st.h = wonT h j0 j1 n → K .normal st) →
 code call fuel F.body ⟨rho3 (.ptr j0 0) (.ptr j1 0) (.iface tw (.agg [.int .i64 n])), fun _ => none, 0, [], h⟩ K
theorem catch_panic {g : FuncId} {tw : TypeId} {hs : Hints} {F : IFn} (c : Closure P g tw hs F) (hF : Catches F tw) (hmix : P.follows .mixedOrders = true) (hGl : ∀ g cells, (g, cells) ∈ hs.glob → (g, cells) ∈ G)
  {j0 j1 : Nat} {n : Int} {x0 x1 : V} {X Y x : Value} (hw : WR k h w G) (hX : VR k w (.ptr j0 0) X) (hY : VR k w (.ptr j1 0) Y) (hx : VR k w (.iface tw (.agg [.int .i64 n])) x)
  (g0 : h.objs j0 = some (.cells [x0])) (g1 : h.objs j1 = some (.cells [x1])) (hne : j0 ≠ j1) :
  CallsD P g #[X, Y] (.panicking [{ v := x, recovered := false }]) w fun e u' w' => (∃ r, e = .returned r) ∧ u' = .panicking [{ v := x, recovered := true }] ∧
   ∃ k', WR k' (wonT h j0 j1 n) w' G ∧ Old ⟨k, h, w, fun _ => False, [], fun _ => undef, fun _ => none⟩ k' (wonT h j0 j1 n) w' := by
 obtain ⟨gn, r2, i0, i1, p0, p1, p2, p3, ti, ti', hgn, gname, body, res, nt, ⟨a0, b0, ty, c0⟩, ⟨a1, b1, c1⟩, ⟨a2, b2, c2⟩, ⟨a3, b3, c3⟩, ⟨ms, tiu⟩, tr⟩ := c
 unfold trF at tr
 obtain ⟨cc, hbody, tr⟩ := bindS tr
 simp only [Option.some.injEq] at hbody
 subst hbody
 obtain ⟨pr, hp, tr⟩ := bindS tr
 obtain ⟨C, ls'⟩ := pr
 simp only at tr
 obtain ⟨rs, hrs, tr⟩ := bindS tr
 simp only [Option.some.injEq] at tr
 subst tr
 simp only [nt] at hp
 have hxi : ∃ y, x = .iface tw y := by cases hx; exact ⟨_, rfl⟩
 refine callsD_of_wpS hgn body fun c₀ cs hu => ?_
 apply wpS_seq
 apply wpS_region
 simp [wpOpsS, go_sem, recoverD, hu, nt, Exit.thenS, a0, b0, c0, a1, b1, c1, Region.wanted]
 apply wpS_seq
 apply wpS_region
 obtain ⟨y, rfl⟩ := hxi
 simp [wpOpsS, go_sem, recoverD, hu, nt, Exit.thenS, a2, b2, c2, a3, b3, c3, Region.wanted, tiu]
 refine wpS_cond (t := true) (by simp [Act.eval, Array.replicate]) ?_
 simp only [if_true]
 refine wpS_of_wp ?_
 refine wp_mono (code_sound (e := ⟨k, h, w, fun _ => False, [], fun _ => undef, fun _ => none⟩) (N := (0, 9)) hGl (call := fun _ _ _ _ => False) (fun _ _ _ _ hh => hh.elim) (fun _ _ _ _ _ _ hh => hh.elim) (draw_ok hGl hmix) (fun _ hh => hh) 0 r2 _ C ls' _ _ w (fun e st => e = .normal ∧ st.h = wonT h j0 j1 n) hp
  (hF _ 0 h j0 j1 n x0 x1 _ hne g0 g1 fun st hst => ⟨rfl, hst⟩) ⟨k, fun _ => 0, fun _ => False, ?_⟩) ?_
 ·refine ⟨fun t => ?_, by simp, ⟨rfl, fun t ht => absurd ht (Nat.not_lt_zero t)⟩, by simp, by simp, by simp, by simp, hw, ⟨Keeps.refl _ _, fun _ _ => rfl, fun _ _ _ => rfl, fun id o ho _ => ⟨id, o, ho, rfl⟩, rfl, rfl, rfl⟩⟩
  simp only [rho3]
  by_cases t0 : t = 0
  ·subst t0; exact hX
  ·by_cases t1 : t = 1
   ·subst t1; exact hY
   ·by_cases t2 : t = 2
    ·subst t2; exact hx
    ·rw [if_neg t0, if_neg t1, if_neg t2]; trivial
 ·intro ex a' w' hh
  cases ex with
  | normal =>
   obtain ⟨st, ⟨_, hst⟩, k', β', A', hf⟩ := hh
   have hr : (results gn a'.tmps).run P w' = .ok (.tuple #[]) w' := by simp [results, res]
   refine ⟨hf.defers.1, _, rfl, _, hr, ⟨_, rfl⟩, rfl, k', ?_, ?_⟩
   ·rw [← hst]; exact hf.wr
   ·rw [← hst]; exact hf.old
  | ret => obtain ⟨st, ⟨hh, _⟩, _⟩ := hh; cases hh
  | exit id => obtain ⟨st, ⟨hh, _⟩, _⟩ := hh; cases hh
  | goto l => exact hh.elim
  | outgrown => exact hh.elim
  | panic ch => obtain ⟨v, h', ⟨hh, _⟩, _⟩ := hh; cases hh
structure Defers (P : Program) (f g : FuncId) (hs : Hints) (F : IFn) where
 fn : Func
 r0 : Code
 rest : Code
 rid : Nat
 o0 : Oper
 o1 : Oper
 c1 : C
 hfn : P.funcs[f]? = some fn
 name : fn.name ≠ "runtime.NumGoroutine"
 body : fn.body = some (.seq r0 (.seq (.region rid #[o0, o1] false) rest))
 q0 : o0.dst = some 9 ∧ o0.guard = none ∧ o0.op = .makeFunc (.func g) #[] #[.tmp 2, .tmp 3]
 q1 : o1.dst = none ∧ o1.guard = none ∧ ∃ ty, o1.op = .defer ⟨.value (.tmp 9), #[], ty⟩
 nt : 10 ≤ fn.ntmps
 tr : trD P hs 4 fn = some F
 shape : F.body = .seq (.reg [⟨some 1, none, .box (.tmp 0) false⟩, ⟨some 2, none, .allocz [.int .i64 0] true⟩, ⟨some 3, none, .allocz [.int .i64 0] true⟩]) c1
 res : F.results = [.cell 2 1 false false, .cell 3 1 false false]
theorem box_cases {v : V} {A : V → Prop} (h : match v with | .lptr .. => False | .itr _ => False | .tuple _ => False | .undef => False | v => A v) : A v := by
 cases v <;> first | exact h | exact h.elim
theorem defer_sound {f g : FuncId} {tw : TypeId} {hs hs2 : Hints} {F F2 : IFn} (d : Defers P f g hs F) (c : Closure P g tw hs2 F2) (hF2 : Catches F2 tw) (hmix : P.follows .mixedOrders = true)
  (hGl : ∀ g cells, (g, cells) ∈ hs.glob → (g, cells) ∈ G) (hGl2 : ∀ g cells, (g, cells) ∈ hs2.glob → (g, cells) ∈ G) (call : CallT) (hcall : CallOK P G call) (hm : MonoT call) (args : List V) (h : H) (K : Out → H → Prop) (hx : deferX F tw call args h K) :
  GoodFn P f ∧ ∀ k w xs, WR k h w G → ArgsOK k w args xs → Calls P f xs w fun en w' => ∃ o h', K o h' ∧ CallPost G k h w o h' en w' := by
 obtain ⟨fn, r0, rest, rid, o0, o1, c1, hfn, name, body, ⟨z0, b0, e0⟩, ⟨z1, b1, ty, e1⟩, nt, tr, shape, res⟩ := d
 refine ⟨⟨fn, hfn, by rw [body]; rfl, name⟩, fun k w xs hw hargs => ?_⟩
 unfold trD at tr
 rw [body] at tr
 simp only at tr
 obtain ⟨p0, hp0, tr⟩ := bindS tr
 obtain ⟨C0, ls0⟩ := p0
 simp only at tr
 obtain ⟨p1, hp1, tr⟩ := bindS tr
 obtain ⟨C1, ls1⟩ := p1
 simp only at tr
 obtain ⟨rs, hrs, tr⟩ := bindS tr
 simp only [Option.some.injEq] at tr
 subst tr
 simp only [C.seq.injEq] at shape
 obtain ⟨rfl, rfl⟩ := shape
 simp only at res
 subst res
 obtain ⟨hlen, fuel, hc⟩ := hx
 match args, hlen with
 | [v], _ =>
 have hxs1 : xs.size = 1 := hargs.1
 obtain ⟨x, hx0, hvx⟩ := hargs.2 0 v rfl
 refine calls_of_wp_defers hfn body ?_
 have hinv : Inv G (0, fn.ntmps) ⟨k, h, w, fun _ => False, [], fun _ => undef, fun _ => none⟩ ⟨args0 [v], fun _ => none, 0, [], h⟩ { tmps := xs ++ Array.replicate (fn.ntmps - xs.size) undef, defers := [] } w := by
  refine ⟨k, fun _ => 0, fun _ => False, fun t => ?_, by simp; omega, ⟨rfl, fun t ht => absurd ht (Nat.not_lt_zero t)⟩, by simp, by simp, by simp, by simp, hw, ⟨Keeps.refl _ _, fun _ _ => rfl, fun _ _ _ => rfl, fun id o ho _ => ⟨id, o, ho, rfl⟩, rfl, rfl, rfl⟩⟩
  cases t with
  | succ t =>
   show SR k w _ _ _ (args0 [v] (t + 1)) _
   have : args0 [v] (t + 1) = .undef := by simp [args0, List.getD]
   rw [this]; trivial
  | zero =>
   have hlt : 0 < xs.size := by omega
   have : (xs ++ Array.replicate (fn.ntmps - xs.size) undef).getD 0 undef = x := by
    rw [Array.getD_eq_getD_getElem?, Array.getElem?_append_left hlt, hx0]; rfl
   show SR k w _ _ _ v _
   rw [this]
   exact hvx.sr
 simp only [code] at hc
 have hc' : code call fuel (.reg [⟨some 1, none, .box (.tmp 0) false⟩, ⟨some 2, none, .allocz [.int .i64 0] true⟩, ⟨some 3, none, .allocz [.int .i64 0] true⟩]) ⟨args0 [v], fun _ => none, 0, [], h⟩
   (fun e st => e = .normal ∧ st.ρ 2 = .ptr h.next 0 ∧ st.ρ 3 = .ptr (h.next + 1) 0 ∧ st.ρ 9 = .undef ∧ code call fuel C1 st (endD ⟨fn.ntmps, [.cell 2 1 false false, .cell 3 1 false false], .seq (.reg [⟨some 1, none, .box (.tmp 0) false⟩, ⟨some 2, none, .allocz [.int .i64 0] true⟩, ⟨some 3, none, .allocz [.int .i64 0] true⟩]) C1⟩ tw h K)) := by
  simp only [code, ops, wantI, op1, isRd, eff, Bool.false_eq_true, if_false] at hc ⊢
  have hv0 : evA (args0 [v]) (.tmp 0) = v := rfl
  rw [hv0] at hc ⊢
  cases v <;> first | exact hc.elim | exact ⟨trivial, rfl, rfl, rfl, hc⟩
 refine wp_seq (wp_mono (code_sound hGl hcall hm (draw_ok hGl hmix) (fun _ h => h) fuel r0 _ _ _ _ _ w _ hp0 hc' hinv) fun ex a1 w1 hh => ?_)
 cases ex with
 | ret => obtain ⟨st, ⟨hh, _⟩, _⟩ := hh; cases hh
 | exit id => obtain ⟨st, ⟨hh, _⟩, _⟩ := hh; cases hh
 | goto l => exact hh.elim
 | outgrown => exact hh.elim
 | panic ch => obtain ⟨v, h', ⟨hh, _⟩, _⟩ := hh; cases hh
 | normal =>
 obtain ⟨st1, ⟨_, s2, s3, s9, hc1⟩, k1, β1, A1, hf1⟩ := hh
 show (Code.seq (.region rid #[o0, o1] false) rest).wp P (bodyPostD P fn _) a1 w1
 have hd1 : a1.defers = [] := hf1.defers.1
 have hsz : a1.tmps.size = fn.ntmps := hf1.size
 have hX : VR k1 w1 (.ptr h.next 0) (a1.tmps.getD 2 undef) := by have := hf1.slot 2; rw [s2] at this; exact this
 have hY : VR k1 w1 (.ptr (h.next + 1) 0) (a1.tmps.getD 3 undef) := by have := hf1.slot 3; rw [s3] at this; exact this
 generalize hXe : a1.tmps.getD 2 undef = X at hX
 generalize hYe : a1.tmps.getD 3 undef = Y at hY
 have hmf : ∀ (fn : Fn) (first cap : Array Value) (w : World), (Instr.makeFunc fn first cap).run P w = .ok (.func fn first cap) w := fun _ _ _ _ => rfl
 apply wp_seq
 apply wp_region
 have hev2 : a1.eval (.tmp 2) = X := hXe
 have hev3 : a1.eval (.tmp 3) = Y := hYe
 have hgood : GoodFn P g := ⟨c.gn, c.hgn, by rw [c.body]; rfl, c.gname⟩
 have hinvk : ∀ w : World, (invoke (.fn (.func g) #[X, Y]) #[]).run P w = .ok (.enter g #[X, Y]) w := fun w => run_callFunc hgood #[X, Y]
 let dd : Deferred := { target := .fn (.func g) #[X, Y], args := #[] }
 let e2 : Entry := ⟨k, h, w, fun _ => False, [dd], fun t => a1.tmps.getD t undef, fun t => if t = 2 then some (.ptr h.next 0) else if t = 3 then some (.ptr (h.next + 1) 0) else none⟩
 have hresult : ∀ (st' : S) (tmps : Array Value) (w' : World) (k' : Ctx) (β' : Nat → Nat) (A' : Nat → Prop) (v' : V), FW G (0, tmps.size) ⟨k, h, w, fun _ => False, [], fun _ => undef, fun _ => none⟩ k' β' A' st' ⟨tmps, []⟩ w' →
   finish st' [.cell 2 1 false false, .cell 3 1 false false] = some v' → K (.ret v') st'.h →
   ∃ x, (results fn tmps).run P w' = .ok x w' ∧ ∃ o h', K o h' ∧ CallPost G k h w o h' (.returned x) w' := by
  intro st' tmps w' k' β' A' v' hf hv hk
  obtain ⟨x, b, fb, r1, r2, r3⟩ := results_sound (P := P) hf hrs hv
  exact ⟨x, r1, .ret v', st'.h, hk, k', hf.wr, hf.old, x, b, fb, rfl, r2, r3⟩
 have key : (rest.wp P (bodyPostD P fn fun en w' => ∃ o h', K o h' ∧ CallPost G k h w o h' en w')) { (a1.put (some 9) (.func (.func g) #[] #[X, Y])) with defers := [dd] } w1 := by
  have h9 : 9 < a1.tmps.size := by omega
  have hinv2 : Inv G (4, fn.ntmps) e2 st1 { (a1.put (some 9) (.func (.func g) #[] #[X, Y])) with defers := [dd] } w1 := by
   refine ⟨k1, β1, A1, fun t => ?_, by simp [Act.put, hsz], ⟨rfl, fun t ht => ⟨?_, fun v hv => ?_⟩⟩, hf1.mem, hf1.alloc, hf1.ainj, hf1.res, hf1.wr, ⟨hf1.old.keeps, hf1.old.lim, hf1.old.same, hf1.old.src, hf1.old.misc⟩⟩
   ·show SR k1 w1 β1 A1 st1.u (st1.ρ t) ((a1.tmps.setIfInBounds 9 _).getD t undef)
    rw [getD_set _ _ _ _ h9]
    split
    ·rename_i ht; subst ht; rw [s9]; trivial
    ·exact hf1.slot t
   ·show (a1.tmps.setIfInBounds 9 _).getD t undef = _
    have ht : t < 4 := ht
    rw [getD_set _ _ _ _ h9, if_neg (by omega)]
   ·show VR k1 w1 v (a1.tmps.getD t undef)
    simp only [e2] at hv
    split at hv
    ·rename_i h2; subst h2; simp only [Option.some.injEq] at hv; subst hv; rw [hXe]; exact hX
    ·split at hv
     ·rename_i h3; subst h3; simp only [Option.some.injEq] at hv; subst hv; rw [hYe]; exact hY
     ·cases hv
  refine wp_mono (code_sound hGl hcall hm (draw_ok hGl hmix) (fun _ h => h) fuel rest _ _ _ _ _ w1 _ hp1 hc1 hinv2) fun ex a' w' hh => ?_
  have hret : ∀ st', (match finish st' [IRes.cell 2 1 false false, IRes.cell 3 1 false false] with | some v => K (.ret v) st'.h | none => False) → Inv G (4, fn.ntmps) e2 st' a' w' →
    Leaves P fn a'.tmps (fun en w' => ∃ o h', K o h' ∧ CallPost G k h w o h' en w') a'.defers .returning w' := by
   rintro st' hk ⟨k', β', A', hf⟩
   rw [hf.defers.1]
   refine leaves_cons (f := g) (args := #[X, Y]) (by simp) (hinvk w') ?_
   refine (catch_idle c X Y w').mono ?_
   rintro en u' w'' ⟨⟨r, rfl⟩, rfl, rfl⟩
   split at hk
   ·rename_i v' hv'
    exact hresult st' a'.tmps w'' k' β' A' v' ⟨hf.slot, rfl, ⟨rfl, fun t ht => absurd ht (Nat.not_lt_zero t)⟩, hf.mem, hf.alloc, hf.ainj, hf.res, hf.wr, ⟨hf.old.keeps, hf.old.lim, hf.old.same, hf.old.src, hf.old.misc⟩⟩ hv' hk
   ·exact hk.elim
  cases ex with
  | normal =>
   obtain ⟨st', hk, hi⟩ := hh
   exact hret st' hk hi
  | ret =>
   obtain ⟨st', hk, hi⟩ := hh
   exact hret st' hk hi
  | exit id => obtain ⟨st', hk, _⟩ := hh; exact hk.elim
  | goto l => exact hh.elim
  | outgrown => exact hh.elim
  | panic ch =>
   obtain ⟨v', h', ⟨n, x0, x1, rfl, g0, g1, hK⟩, x', k', rfl, hheld, hwr, hold, hvr⟩ := hh
   have g0 : h'.objs h.next = some (.cells [x0]) := g0
   have g1 : h'.objs (h.next + 1) = some (.cells [x1]) := g1
   have hx2 := hheld.2 2 (show 2 < 4 by decide)
   have hx3 := hheld.2 3 (show 3 < 4 by decide)
   have hX' : VR k' w' (.ptr h.next 0) X := by rw [← hXe]; exact hx2.2 _ rfl
   have hY' : VR k' w' (.ptr (h.next + 1) 0) Y := by rw [← hYe]; exact hx3.2 _ rfl
   show Leaves P fn a'.tmps _ a'.defers (.panicking _) w'
   rw [hheld.1]
   refine leaves_cons (f := g) (args := #[X, Y]) (by simp) (hinvk w') ?_
   refine (catch_panic c hF2 hmix hGl2 hwr hX' hY' hvr g0 g1 (by omega)).mono ?_
   rintro en u' w'' ⟨⟨r, rfl⟩, rfl, k'', hwr', hold'⟩
   have hst : settle (.panicking [{ v := x', recovered := true }]) = .returning := rfl
   show Leaves P fn a'.tmps _ [] (settle _) w''
   rw [hst]
   have hf0 : FW G (0, a'.tmps.size) ⟨k, h, w, fun _ => False, [], fun _ => undef, fun _ => none⟩ k' (fun _ => 0) (fun _ => False) ⟨fun t => if t = 2 then .ptr h.next 0 else if t = 3 then .ptr (h.next + 1) 0 else .undef, fun _ => none, 0, [], h'⟩ ⟨a'.tmps, []⟩ w' := by
    refine ⟨fun t => ?_, rfl, ⟨rfl, fun t ht => absurd ht (Nat.not_lt_zero t)⟩, by simp, by simp, by simp, by simp, hwr, ⟨hold.keeps, hold.lim, hold.same, hold.src, hold.misc⟩⟩
    by_cases t2 : t = 2
    ·subst t2
     show VR k' w' (.ptr h.next 0) (a'.tmps.getD 2 undef)
     rw [hx2.1]; show VR k' w' _ (a1.tmps.getD 2 undef); rw [hXe]; exact hX'
    ·by_cases t3 : t = 3
     ·subst t3
      show VR k' w' (.ptr (h.next + 1) 0) (a'.tmps.getD 3 undef)
      rw [hx3.1]; show VR k' w' _ (a1.tmps.getD 3 undef); rw [hYe]; exact hY'
     ·show SR k' w' _ _ _ (if t = 2 then _ else if t = 3 then _ else _) _
      rw [if_neg t2, if_neg t3]; trivial
   have hf2 := hf0.call hwr' hold'
   refine hresult _ a'.tmps w'' k'' _ _ (.tuple [.int .i64 0, .int .i64 n]) hf2 ?_ hK
   have n1 : h.next ≠ h.next + 1 := by omega
   simp [finish, resVs, resV, loadV, H.get, wonT, H.set, upd, takeV, resF, V.out, outRs, outR, S.withH, outs]
 have h9 : 9 < a1.tmps.size := by omega
 have hX2 : a1.tmps[2]?.getD undef = X := by rw [← hXe, Array.getD_eq_getD_getElem?]
 have hY2 : a1.tmps[3]?.getD undef = Y := by rw [← hYe, Array.getD_eq_getD_getElem?]
 simp [wpOps, List.range, List.range.loop, Region.wanted, b0, b1, Oper.wp, Oper.upon, execOp, e0, e1, z0, z1, go_sem, hmf, h9, hX2, hY2, hd1]
 refine .inl ?_
 have key' := key
 rw [hd1] at *
 simp [Act.put, Exit.then, dd] at key' ⊢
 exact .inl key'
end
end Go.Ab
