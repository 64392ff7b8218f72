import Derived.Test.YtihmoaibgmhjeaaDoorDf
import Derived.Test.YtihmoaibgmhjeaaDoorDg
import Derived.Test.YtihmoaibgmhjeaaDoorIr
import Derived.Test.YtihmoaibgmhjeaaDoorAb33
set_option linter.unusedVariables false
set_option linter.unusedSimpArgs false
set_option maxRecDepth 100000
namespace Go.Ab.YtihmoaibgmhjeaaDoor
open Go.Proofs (Tryd.prog)
noncomputable def gB : Code := bodyC Go.Proofs.Tryd.f26
noncomputable def cB : Code := bodyC Go.Proofs.Tryd.f34
noncomputable def goneDef : Defers Go.Proofs.Tryd.prog 26 34 hs26 ir26 where
 fn := Go.Proofs.Tryd.f26
 r0 := cS1 gB
 rest := cS2 (cS2 gB)
 rid := cId (cS1 (cS2 gB))
 o0 := cOp (cS1 (cS2 gB)) 0
 o1 := cOp (cS1 (cS2 gB)) 1
 c1 := match ir26.body with | .seq _ c => c | _ => .skip
 hfn := Go.Proofs.Tryd.func26
 name := by decide +kernel
 body := by kernel_rfl
 q0 := ⟨by kernel_rfl, by kernel_rfl, by kernel_rfl⟩
 q1 := ⟨by kernel_rfl, by kernel_rfl, callTys (cOp (cS1 (cS2 gB)) 1), by kernel_rfl⟩
 nt := Nat.le_of_ble_eq_true (by kernel_rfl)
 tr := tr26
 shape := by kernel_rfl
 res := by kernel_rfl
noncomputable def goneClo : Closure Go.Proofs.Tryd.prog 34 74 hs34 ir34 where
 gn := Go.Proofs.Tryd.f34
 r2 := cThen (cS2 (cS2 cB))
 i0 := cId (cS1 cB)
 i1 := cId (cS1 (cS2 cB))
 p0 := cOp (cS1 cB) 0
 p1 := cOp (cS1 cB) 1
 p2 := cOp (cS1 (cS2 cB)) 0
 p3 := cOp (cS1 (cS2 cB)) 1
 ti := (binT (cOp (cS1 (cS2 cB)) 1)).1
 ti' := (binT (cOp (cS1 (cS2 cB)) 1)).2
 hgn := Go.Proofs.Tryd.func34
 gname := by decide +kernel
 body := by kernel_rfl
 res := by kernel_rfl
 nt := by kernel_rfl
 q0 := ⟨by kernel_rfl, by kernel_rfl, callTys (cOp (cS1 cB) 0), by kernel_rfl⟩
 q1 := ⟨by kernel_rfl, by kernel_rfl, by kernel_rfl⟩
 q2 := ⟨by kernel_rfl, by kernel_rfl, by kernel_rfl⟩
 q3 := ⟨by kernel_rfl, by kernel_rfl, by kernel_rfl⟩
 tiu := ⟨#[], by kernel_rfl⟩
 tr := by kernel_rfl
theorem catches : Catches ir34 74 := by
 intro call fuel h j0 j1 n x0 x1 K hne g0 g1 hK
 show codeT call ir34.body _ K ⟨⟩
 have g1' : (h.set j0 (.cells [.int .i64 0])).objs j1 = some (.cells [x1]) := by simp only [H.set, upd]; rw [if_neg (fun e => hne e.symm)]; exact g1
 simp -dsimp -implicitDefEqProofs only [↓STP, STQ, seval, ir34, rho3, storeV, H.get, g0, g1', Nat.lt_succ_self]
 exact hK _ rfl
def exts : FuncId → Option (CallT → List V → H → (Out → H → Prop) → Prop) := fun f =>
 if f = 26 then some (deferX ir26 74) else if f = 73 then some cloneX else none
theorem exts_cases {f : FuncId} {x : CallT → List V → H → (Out → H → Prop) → Prop} (h : exts f = some x) :
  (f = 26 ∧ x = deferX ir26 74) ∨ (f = 73 ∧ x = cloneX) := by
 unfold exts at h
 split at h
 ·rename_i hf; cases h; exact .inl ⟨hf, rfl⟩
 ·split at h
  ·rename_i hf; cases h; exact .inr ⟨hf, rfl⟩
  ·cases h
theorem exts_le : ∀ f x, exts f = some x → ∀ (call call2 : CallT), Le2 call call2 → ∀ args h (K K' : Out → H → Prop), (∀ o h', K o h' → K' o h') → x call args h K → x call2 args h K' := by
 intro f x hx
 rcases exts_cases hx with ⟨_, rfl⟩ | ⟨_, rfl⟩
 ·exact deferX_le
 ·exact cloneX_le
theorem exts_cont : ∀ f x, exts f = some x → ∀ (call : CallT), Cont call → MonoT call → ∀ args h (Q : Nat → Out → H → Prop), (∀ m m' o h', m ≤ m' → Q m o h' → Q m' o h') → x call args h (fun o h' => ∃ m, Q m o h') → ∃ m, x call args h (Q m) := by
 intro f x hx
 rcases exts_cases hx with ⟨_, rfl⟩ | ⟨_, rfl⟩
 ·exact deferX_cont
 ·exact cloneX_cont
theorem exts_sound : ∀ f x, exts f = some x → ∀ call, CallOK Go.Proofs.Tryd.prog globs call → MonoT call → ∀ args h K, x call args h K → GoodFn Go.Proofs.Tryd.prog f ∧ ∀ k w xs, WR k h w globs → ArgsOK k w args xs →
  Calls Go.Proofs.Tryd.prog f xs w fun en w' => ∃ o h', K o h' ∧ CallPost globs k h w o h' en w' := by
 intro f x hx
 rcases exts_cases hx with ⟨rfl, rfl⟩ | ⟨rfl, rfl⟩
 ·exact fun call hc hm args h K hxx => defer_sound goneDef goneClo catches (by kernel_rfl) (fun g cells h => h) (fun g cells h => h) call hc hm args h K hxx
 ·exact fun call hc hm args h K hxx => clone_sound call hc hm args h K hxx
end Go.Ab.YtihmoaibgmhjeaaDoor
