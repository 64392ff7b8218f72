import Derived.Test.YtihmoaibgmhjeaaDoorA3
import Derived.Test.YtihmoaibgmhjeaaDoorF4
set_option linter.unusedVariables false
set_option linter.unusedSimpArgs false
namespace Go.Ab
structure Kn where
 kind : Int
 w : Nat
 is : Bool
 val : Nat
def Kn.cells (k : Kn) : List V := [I k.kind, I k.w, .bool k.is, W k.val]
def Kn.v (k : Kn) : V := .agg k.cells
def knum (w : Nat) : Kn := ⟨1, w, false, 0⟩
def wid (n : Nat) : Nat := max (blen n) 1
def kcon (n : Nat) : Kn := ⟨1, wid n, true, n⟩
def kboo : Kn := ⟨2, 0, false, 0⟩
structure KOk (k : Kn) : Prop where
 kind : k.kind = 1 ∨ k.kind = 2
 w : k.w ≤ 60
 val : k.val < 2 ^ k.w
 boo : k.kind = 2 → k.w = 0 ∧ k.is = false
 un : k.is = false → k.val = 0
abbrev TR (α : Type) := Except Int α
def Ans {α : Type} (r : TR α) (K : α → Prop) (F : Int → Prop) : Prop := match r with
 | .ok a => K a
 | .error e => F e
@[simp] theorem Ans_ok {α : Type} {a : α} {K : α → Prop} {F : Int → Prop} : Ans (.ok a) K F = K a := rfl
@[simp] theorem Ans_error {α : Type} {e : Int} {K : α → Prop} {F : Int → Prop} : Ans (.error e : TR α) K F = F e := rfl
def andT {α β : Type} (r : TR α) (f : α → TR β) : TR β := match r with
 | .ok a => f a
 | .error e => .error e
@[simp] theorem andT_ok {α β : Type} {a : α} {f : α → TR β} : andT (.ok a) f = f a := rfl
@[simp] theorem andT_error {α β : Type} {e : Int} {f : α → TR β} : andT (.error e) f = .error e := rfl
structure TE where
 vars : ByteArray → Option (Int × Nat)
 loops : List (ByteArray × Nat)
 words : List (List Nat)
structure TS where
 env : TE
 steps : Nat
 most : Nat
 ifs : Nat
def findL {α : Type} (s : ByteArray) : List (ByteArray × α) → Option α
 | [] => none
 | (a, v) :: es => if a = s then some v else findL s es
def inOf (p : Prg) (s : ByteArray) : Option InD := p.ins.find? (fun d => decide (d.name = s))
def arOf (p : Prg) (s : ByteArray) : Option Nat := p.arrays.findIdx? (fun d => decide (d.name = s))
def nameT (p : Prg) (σ : TE) (s : ByteArray) : TR Kn :=
 match findL s σ.loops with
 | some n => .ok (kcon n)
 | none => match σ.vars s with
  | some (k, w) => .ok ⟨k, w, false, 0⟩
  | none => match inOf p s with
   | some d => if d.size = 0 then .ok (knum d.width.toNat) else .error 4
   | none => .error 4
def placeT (k : Kn) (size : Int) : TR Nat :=
 if k.kind ≠ 1 ∨ k.is = false then .error 1 else if size ≤ k.val then .error 13 else .ok k.val
def indexT (p : Prg) (σ : TE) (s : ByteArray) (k : Kn) : TR Kn :=
 match arOf p s with
 | some i => andT (placeT k (p.arrays.getD i ⟨s, 0⟩).size) fun n => .ok (knum ((σ.words.getD i []).getD n 0))
 | none => match inOf p s with
  | some d => if d.size = 0 then .error 4 else andT (placeT k d.size) fun _ => .ok (knum d.width.toNat)
  | none => .error 4
def opKind (o : Int) : Int := if o = 6 ∨ o = 7 then 2 else 1
def opK (o : Int) (a b : Kn) : TR Kn :=
 if a.kind ≠ opKind o ∨ b.kind ≠ opKind o then .error 5
 else if o = 1 then .ok ⟨1, max a.w b.w + 1, a.is && b.is, if a.is && b.is then a.val + b.val else 0⟩
 else if o = 2 then .ok ⟨1, a.w, a.is && b.is, if a.is && b.is then a.val - b.val else 0⟩
 else if o = 3 then .ok ⟨1, a.w + b.w, a.is && b.is, if a.is && b.is then a.val * b.val else 0⟩
 else .ok kboo
def nthK (l : List Kn) (i : Nat) : Kn := l.getD i kboo
def madeT (p : Prg) (σ : TE) (k o : Int) (n : Nat) (s : ByteArray) (l : List Kn) : TR Kn :=
 if k = 1 then .ok (kcon n)
 else if k = 2 then nameT p σ s
 else if k = 3 then indexT p σ s (nthK l 0)
 else if k = 4 then opK o (nthK l 0) (nthK l 1)
 else if k = 5 then (if (nthK l 0).kind ≠ 2 then .error 5 else .ok kboo)
 else if (nthK l 0).kind ≠ 2 ∨ (nthK l 2).kind ≠ (nthK l 1).kind then .error 5
 else .ok ⟨(nthK l 1).kind, max (nthK l 1).w (nthK l 2).w, false, 0⟩
def toldT (m : Nat) (k : Kn) : TR (Kn × Nat) :=
 if k.kind = 1 then (if 60 < k.w then .error 11 else .ok (k, max m k.w)) else .ok (k, m)
mutual
def exprT (p : Prg) (σ : TE) : Exp → TR (Kn × Nat)
 | .mk k o n s ks => andT (exprsT p σ ks) fun (l, m) => andT (madeT p σ k o n s l) fun r => toldT m r
def exprsT (p : Prg) (σ : TE) : List Exp → TR (List Kn × Nat)
 | [] => .ok ([], 0)
 | e :: es => andT (exprT p σ e) fun (a, m) => andT (exprsT p σ es) fun (l, m') => .ok (a :: l, max m m')
end
def stepT (σ : TS) : TR TS := if 10000 ≤ σ.steps then .error 2 else .ok { σ with steps := σ.steps + 1 }
def takenT (p : Prg) (σ : TE) (s : ByteArray) : Bool := (inOf p s).isSome || (arOf p s).isSome || (findL s σ.loops).isSome
def setV (f : ByteArray → Option (Int × Nat)) (s : ByteArray) (v : Option (Int × Nat)) : ByteArray → Option (Int × Nat) := fun t => if t = s then v else f t
def both1 (a b : Option (Int × Nat)) : Option (Int × Nat) := match a, b with
 | some (k, w), some (k', w') => if k = k' then some (k, max w w') else none
 | _, _ => none
def bothV (ahead a b : ByteArray → Option (Int × Nat)) : ByteArray → Option (Int × Nat) := fun s => match ahead s with
 | some _ => both1 (a s) (b s)
 | none => none
def maxW (a b : List (List Nat)) : List (List Nat) := List.zipWith (List.zipWith max) a b
def setW (l : List (List Nat)) (i n w : Nat) : List (List Nat) := l.set i ((l.getD i []).set n w)
def iterT (f : Nat → TS → TR TS) : Nat → Nat → TS → TR TS
 | 0, _, σ => .ok σ
 | c + 1, n, σ => andT (f n σ) fun σ' => iterT f c (n + 1) σ'
def turnT (s : ByteArray) (fa : TS → TR TS) (n : Nat) (τ : TS) : TR TS :=
 andT (stepT τ) fun τ => andT (fa { τ with env := { τ.env with loops := τ.env.loops ++ [(s, n)] } }) fun τ' => .ok { τ' with env := { τ'.env with loops := τ.env.loops } }
def setT (p : Prg) (s : ByteArray) (l : List Kn) (σ : TS) : TR TS :=
 if takenT p σ.env s then .error 4 else .ok { σ with env := { σ.env with vars := setV σ.env.vars s (some ((nthK l 0).kind, (nthK l 0).w)) } }
def storeT (p : Prg) (s : ByteArray) (l : List Kn) (σ : TS) : TR TS := match arOf p s with
 | none => .error 4
 | some i => andT (placeT (nthK l 0) (p.arrays.getD i ⟨s, 0⟩).size) fun n =>
  if (nthK l 1).kind ≠ 1 then .error 5 else .ok { σ with env := { σ.env with words := setW σ.env.words i n (nthK l 1).w } }
def ifT (l : List Kn) (fa fb : TS → TR TS) (σ : TS) : TR TS :=
 if (nthK l 0).kind ≠ 2 then .error 5 else
 andT (fa { σ with ifs := σ.ifs + 1 }) fun σ1 => andT (fb { σ1 with env := σ.env }) fun σ2 =>
 .ok { σ2 with ifs := σ.ifs, env := { σ.env with vars := bothV σ.env.vars σ1.env.vars σ2.env.vars, words := maxW σ2.env.words σ1.env.words } }
def forT (p : Prg) (s : ByteArray) (l : List Kn) (fa : TS → TR TS) (σ : TS) : TR TS :=
 if (nthK l 0).kind ≠ 1 ∨ (nthK l 1).kind ≠ 1 ∨ (nthK l 0).is = false ∨ (nthK l 1).is = false then .error 1
 else if takenT p σ.env s then .error 4 else
 iterT (turnT s fa) ((nthK l 1).val + 1 - (nthK l 0).val) (nthK l 0).val { σ with env := { σ.env with vars := setV σ.env.vars s none } }
def stmt1 (p : Prg) (k : Int) (s : ByteArray) (l : List Kn) (fa fb : TS → TR TS) (σ : TS) : TR TS :=
 if k = 1 then setT p s l σ else if k = 2 then storeT p s l σ else if k = 3 then ifT l fa fb σ else if k = 4 then forT p s l fa σ
 else if 0 < σ.ifs then .error 1 else .ok σ
mutual
def stmtT (p : Prg) : Stm → TS → TR TS
 | .mk k s e a b, σ => andT (stepT σ) fun σ => andT (exprsT p σ.env e) fun r => stmt1 p k s r.1 (stmtsT p a) (stmtsT p b) { σ with most := max σ.most r.2 }
def stmtsT (p : Prg) : List Stm → TS → TR TS
 | [], σ => .ok σ
 | x :: xs, σ => andT (stmtT p x σ) fun σ' => stmtsT p xs σ'
end
def unlikeT (p : Prg) : Bool := decide ((p.ins.map InD.name ++ p.arrays.map ArD.name).Nodup)
def maxI : List InD → Nat
 | [] => 0
 | d :: ds => max d.width.toNat (maxI ds)
def initT (p : Prg) : TS := ⟨⟨fun _ => none, [], p.arrays.map fun d => List.replicate d.size.toNat 1⟩, 0, maxI p.ins, 0⟩
def checkT (p : Prg) : TR TS := if unlikeT p then stmtsT p p.body (initT p) else .error 4
structure EOkT (p : Prg) (σ : TE) : Prop where
 vars : ∀ s k w, σ.vars s = some (k, w) → (k = 1 ∨ k = 2) ∧ w ≤ 60 ∧ (k = 2 → w = 0)
 loops : ∀ s n, (s, n) ∈ σ.loops → n < 1152921504606846976
 wlen : σ.words.length = p.arrays.length
 words : ∀ (i : Nat) (l : List Nat) (d : ArD), σ.words[i]? = some l → p.arrays[i]? = some d → (l.length : Int) = d.size ∧ ∀ w ∈ l, w ≤ 60
structure TOk (p : Prg) (σ : TS) : Prop where
 env : EOkT p σ.env
 steps : σ.steps ≤ 10000
 most : σ.most ≤ 60
end Go.Ab
