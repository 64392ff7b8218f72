import Derived.Test.YtihmoaibgmhjeaaDoorAb28
import Derived.Test.YtihmoaibgmhjeaaDoorProg
import Derived.Tactics
import Derived.Tactics2
import Derived.Laws.Externs
import Derived.MapKept
import Derived.WalkKit
import Derived.KernelRfl
set_option linter.unusedVariables false
set_option linter.unusedSimpArgs false
namespace Go.Ab
def cloneX : CallT → List V → H → (Out → H → Prop) → Prop := fun call args h K => ∃ id es ver, args = [.map id] ∧ h.mapAt id = some (es, ver) ∧ K (.ret (.map h.next)) (h.new (.map es 0))
section
variable {P : Program} (w : World)
theorem run_equalIn_map_nil' (d : Nat) (t k e : TypeId) (p : Option Nat) (h : P.underlying t = some (.map k e)) :
  (Op.equalIn (d + 1) t (.map p) (.map none)).run P w = .ok p.isNone w := by
 cases p <;> simp [Op.equalIn, run_underlying h]
theorem run_eql_map_nil' (t k e : TypeId) (p : Option Nat) (h : P.underlying t = some (.map k e)) :
  (binOp .eql t (.map p) (.map none)).run P w = .ok (.bool p.isNone) w := by
 simp only [binOp]
 simp [show Op.equal t (.map p) (.map none) = Op.equalIn (9999 + 1) t (.map p) (.map none) from rfl, run_equalIn_map_nil' w 9999 t k e p h]
theorem run_typeAssert_map' (t xT k e : TypeId) (v : Value) (h : P.underlying t = some (.map k e)) : (Instr.typeAssert (.iface t v) xT t false).run P w = .ok v w := by
 simp [Instr.typeAssert, run_underlying h, go_sem, Result.andThen]
theorem run_maps_clone' {r : Nat} {es : Array MapEntry} {clock : Nat} (t : TypeId) (hb : w.heap[r]? = some (.map es clock)) :
  (Extern.MapsClone.clone #[.iface t (.map (some r))]).run P w = .ok (.iface t (.map (some w.heap.size))) (w.alloc (.map es clock)) := by
 have e : Extern.MapsClone.clone #[.iface t (.map (some r))] = (getObj r >>= fun o => match o with
   | .map entries clock => (newObj (.map entries clock) >>= fun n => pure (.iface t (.map (some n))))
   | _ => stuck "maps.clone: a map expected") := rfl
 rw [e]
 simp [MapKept.run_getObj_map hb, Result.andThen, go_sem]
end
namespace YtihmoaibgmhjeaaDoor
open Go.Proofs in
set_option maxHeartbeats 2000000 in
set_option maxRecDepth 100000 in
theorem clone_calls (b : Nat) (es : Array MapEntry) (clock : Nat) (w : World) (hb : w.heap[b]? = some (.map es clock)) :
  Calls Tryd.prog 73 #[.map (some b)] w fun e w' => e = .returned (.map (some w.heap.size)) ∧ w' = w.alloc (.map es clock) := by
 have hu : Tryd.prog.underlying 78 = some (.map 9 95) := by kernel_rfl
 have hq := fun w => run_eql_map_nil' (P := Tryd.prog) w 78 _ _ (some b) hu
 go_enter Tryd.func73, Tryd.ntmps73
 go_wp2
 rw [run_callFunc_extern Tryd.func86 (by kernel_rfl) (by kernel_rfl) (by kernel_rfl) (e := Extern.MapsClone.clone) (by kernel_rfl), run_maps_clone' w 78 hb]
 simp only [Result.andThen]
 rw [Oper.upon_value]
 go_wp2
 rw [run_typeAssert_map' _ 78 _ _ _ _ hu]
 simp only [Result.andThen]
 rw [Oper.upon_value]
 go_wp2
 go_ret
 exact ⟨rfl, rfl⟩
theorem clone_sound {G : List (Nat × List V)} (call : CallT) (hcall : CallOK Go.Proofs.Tryd.prog G call) (hm : MonoT call) (args : List V) (h : H) (K : Out → H → Prop) (hx : cloneX call args h K) :
  GoodFn Go.Proofs.Tryd.prog 73 ∧ ∀ k w xs, WR k h w G → ArgsOK k w args xs →
   Calls Go.Proofs.Tryd.prog 73 xs w fun en w' => ∃ o h', K o h' ∧ CallPost G k h w o h' en w' := by
 obtain ⟨id, es, ver, rfl, hg, hK⟩ := hx
 refine ⟨⟨_, Go.Proofs.Tryd.func73, by kernel_rfl, by decide +kernel⟩, fun k w xs hw hargs => ?_⟩
 obtain ⟨x, hx0, hvx⟩ := hargs.2 0 _ rfl
 have hxs : xs = #[x] := by
  have h1 : xs.size = 1 := hargs.1
  apply Array.ext
  ·simpa using h1
  ·intro i hi hi'
   have : i = 0 := by simpa using hi'
   subst this
   simpa [Array.getElem?_eq_getElem hi] using hx0
 subst hxs
 have hob : h.objs id = some (.map es ver) := by
  unfold H.mapAt at hg
  split at hg
  ·rename_i es' v' ho
   simp only [Option.some.injEq, Prod.mk.injEq] at hg
   obtain ⟨rfl, rfl⟩ := hg
   exact ho
  ·cases hg
 cases hvx with
 | map _ b hb hid =>
 subst hb
 obtain ⟨_, _, _, en, clock, hheap, hsz, hent, hborn, hlt⟩ := hw.obj id _ hob
 refine (clone_calls (k.ω id) en clock w hheap).mono ?_
 rintro e w' ⟨rfl, rfl⟩
 have f0 : FW G (0, 0) ⟨k, h, w, fun _ => False, [], fun _ => undef, fun _ => none⟩ k (fun _ => 0) (fun _ => False) ⟨fun _ => .undef, fun _ => none, 0, [], h⟩ ⟨#[], []⟩ w :=
  ⟨fun t => trivial, rfl, ⟨rfl, fun t ht => absurd ht (Nat.not_lt_zero t)⟩, by simp, by simp, by simp, by simp, hw, ⟨Keeps.refl _ _, fun _ _ => rfl, fun _ _ _ => rfl, fun id o ho _ => ⟨id, o, ho, rfl⟩, rfl, rfl, rfl⟩⟩
 have hk : Keeps k ((k.setLim w.heap.size 0).reg w.heap.size) w (w.alloc (.map en clock)) := (Keeps.alloc _ _).trans (Keeps.reg _ _ _)
 have f1 := f0.newObj (o := .map es 0) (ob := .map en clock) ⟨en, clock, rfl, hsz, fun j a v hj => let ⟨e, p, q, r⟩ := hent j a v hj; ⟨e, p, q.mono hk, r.mono hk⟩, hborn, hlt⟩
 refine ⟨.ret (.map h.next), h.new (.map es 0), hK, _, f1.wr, f1.old, _, 0, False, rfl, fun h => h.elim, ?_⟩
 have hn : h.next = k.nx := hw.nx.symm
 rw [hn]
 exact .map k.nx _ (reg_nx _ _ _).symm (reg_lt _ _ _)
end YtihmoaibgmhjeaaDoor
theorem cloneX_le (call call2 : CallT) (hc : Le2 call call2) (args : List V) (h : H) (K K' : Out → H → Prop) (hK : ∀ o h', K o h' → K' o h') (hx : cloneX call args h K) : cloneX call2 args h K' := by
 obtain ⟨id, es, ver, a, b, c⟩ := hx
 exact ⟨id, es, ver, a, b, hK _ _ c⟩
theorem cloneX_cont (call : CallT) (hc : Cont call) (hm : MonoT call) (args : List V) (h : H) (Q : Nat → Out → H → Prop) (hup : ∀ m m' o h', m ≤ m' → Q m o h' → Q m' o h')
  (hx : cloneX call args h (fun o h' => ∃ m, Q m o h')) : ∃ m, cloneX call args h (Q m) := by
 obtain ⟨id, es, ver, a, b, m, c⟩ := hx
 exact ⟨m, id, es, ver, a, b, c⟩
end Go.Ab
