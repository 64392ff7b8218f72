import Derived.Test.YtihmoaibgmhjeaaDoorMa
set_option linter.unusedVariables false
namespace Go.Ab
def trD (P : Program) (hs : Hints) (M : Nat) (f : Func) : Option IFn :=
 match f.body with
 | some (.seq r0 (.seq (.region _ _ false) rest)) => do
  let (c0, ls) ← trC P hs (0, f.ntmps) r0 hs.loops
  let (c1, _) ← trC P hs (M, f.ntmps) rest ls
  some ⟨f.ntmps, ← trRes P false f.results.toList, .seq c0 c1⟩
 | _ => none
def thenOf (f : Func) : Func := match f.body with
 | some (.seq _ (.seq _ (.cond _ r _))) => { f with body := some r }
 | _ => f
def cS1 : Code → Code | .seq a _ => a | c => c
def cS2 : Code → Code | .seq _ b => b | c => c
def cOps : Code → Array Oper | .region _ ops _ => ops | _ => #[]
def cOp (c : Code) (i : Nat) : Oper := (cOps c).getD i default
def cId : Code → Nat | .region i _ _ => i | _ => 0
def cThen : Code → Code | .cond _ a _ => a | c => c
def bodyC (f : Func) : Code := f.body.getD .skip
def binT (o : Oper) : TypeId × TypeId := match o.op with | .binOp _ t _ _ u => (t, u) | _ => (0, 0)
def callTys (o : Oper) : Array TypeId := match o.op with | .call c => c.argTypes | .defer c => c.argTypes | _ => #[]
end Go.Ab
