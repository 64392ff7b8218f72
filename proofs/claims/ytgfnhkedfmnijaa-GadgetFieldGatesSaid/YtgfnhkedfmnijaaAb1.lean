/- How a function of the model is brought into the small language of the layer Ab: by a plain function, with hints; each use of it is one closed equation. -/
import Derived.Test.YtgfnhkedfmnijaaAb0
set_option linter.unusedVariables false
set_option linter.unusedSimpArgs false
namespace Go.Ab

structure Hints where
  obj : List Nat := []
  bare : List Nat := []
  loops : List (List Nat) := []
  draws : List (Nat × List Nat × List (Nat × List Nat)) := []
  glob : List (Nat × List V) := []

def ofVal0 : Value → Option V
  | .bool b => some (.bool b)
  | .int k n => some (.int k n)
  | .string s => some (.str s)
  | .pointer none => some .nilptr
  | .slice none 0 0 => some (.vec [] .full)
  | .map none => some .nilmap
  | .nilFunc => some .nilfunc
  | .nilIface => some .niliface
  | .func f a b => if a.size = 0 ∧ b.size = 0 then some (.func f [] []) else none
  | _ => none

def ofVals : List Value → Option (List V)
  | [] => some []
  | v :: vs => match ofVal0 v, ofVals vs with
    | some a, some as => some (a :: as)
    | _, _ => none

def ofVal : Value → Option V
  | .agg cs => (ofVals cs.toList).map .agg
  | v => ofVal0 v

def trArg (hs : Hints) : Operand → Option Arg
  | .tmp t => some (.tmp t)
  | .const v => (ofVal v).map .cst
  | .global g => ((hs.glob.find? (·.1 == g)).map (·.2)).map (.glob g)
  | .func f => some (.cst (.func (.func f) [] []))

def trArgs (hs : Hints) : List Operand → Option (List Arg)
  | [] => some []
  | x :: xs => match trArg hs x, trArgs hs xs with
    | some a, some as => some (a :: as)
    | _, _ => none

def trOpt (hs : Hints) : Option Operand → Option (Option Arg)
  | none => some none
  | some x => (trArg hs x).map some

def sizeT (P : Program) (t : TypeId) : Option Nat := (P.info? t).map (·.size)
def bytesT (P : Program) (t : TypeId) : Option Nat := (P.info? t).map (·.bytes)
def aggT (P : Program) (t : TypeId) : Option Bool :=
  match P.underlying t with
  | some (.struct _) | some (.array _ _) => some true
  | some _ => some false
  | none => none
def zeroT (P : Program) (t : TypeId) : Option (List V) := do
  let i ← P.info? t
  let z ← i.zero
  ofVals z.cells.toList
def zeroV (P : Program) (t : TypeId) : Option V := do
  let i ← P.info? t
  let z ← i.zero
  ofVal z
/-- An element that is no aggregate lies in one cell. -/
def oneT (n : Nat) (ag : Bool) : Bool := ag || n == 1
def elemT (P : Program) (t : TypeId) : Option TypeId :=
  match P.underlying t with
  | some (.slice e) => some e
  | _ => none

/-- A type's fields as they are compared: whole numbers, strings and bools alone. -/
def kindT (P : Program) (t : TypeId) : Option KK :=
  match P.underlying t with
  | some (.int _) => some .i
  | some .string => some .s
  | some .bool => some .b
  | _ => none

def eqFields (P : Program) : List Field → Option (List (Nat × KK))
  | [] => some []
  | f :: fs => match kindT P f.type, eqFields P fs with
    | some q, some r => if f.name ≠ "_" then some ((f.offset, q) :: r) else none
    | _, _ => none

def eqKT (P : Program) (t : TypeId) : Option EqK :=
  match P.underlying t with
  | some (.int _) | some .string => some .plain
  | some .bool => some .bool
  | some (.struct fs) => if P.stoodInHeld t || P.eqGuardType P.depth t then none else (eqFields P fs.toList).map .agg
  | some (.map _ _) => some .nilM
  | some (.interface _) => some .nilI
  | _ => none

def placesOf (P : Program) (fs : List Field) : Option (List (Nat × Nat)) :=
  match fs with
  | [] => some []
  | f :: r => match sizeT P f.type, placesOf P r with
    | some n, some l => some ((f.offset, n) :: l)
    | _, _ => none

def trParts (hs : Hints) (place : Nat → Option (Nat × Nat)) : List (Nat × Operand) → Option (List (Nat × Nat × Arg))
  | [] => some []
  | (i, x) :: r => match place i, trArg hs x, trParts hs place r with
    | some (off, n), some a, some l => some ((off, n, a) :: l)
    | _, _, _ => none

def isObj (hs : Hints) (d : Option Nat) : Bool := match d with | some t => hs.obj.contains t | none => false

def trCall (P : Program) (hs : Hints) (d : Option Nat) (c : Call) : Option K := do
  let args ← trArgs hs c.args.toList
  match c.callee with
  | .value (.func f) => do
    let fn ← P.funcs[f]?
    if fn.body.isSome ∧ fn.name ≠ "runtime.NumGoroutine" then some (.call f args)
    else if fn.body.isNone ∧ fn.name = "math/bits.Add64" ∧ fn.origin = "" then
      match args with
      | [x, y, c] => some (.add64 x y c)
      | _ => none
    else none
  | .value x => do some (.callv (← trArg hs x) args)
  | .invoke _ _ => none
  | .builtin b =>
    match b, args with
    | .len, [x] => do
      let t0 ← c.argTypes[0]?
      match P.underlying t0 with
      | some (.array n _) => some (.lenK n)
      | some (.slice _) => some (.len .i x)
      | some .string => some (.len .s x)
      | some (.map _ _) => some (.len .b x)
      | _ => none
    | .max, xs => some (.max xs)
    | .min, xs => some (.min xs)
    | .append, [x, y] => do
      let t0 ← c.argTypes[0]?
      let t1 ← c.argTypes[1]?
      let e ← elemT P t0
      let n ← sizeT P e
      let ag ← aggT P e
      let z ← zeroT P e
      let e' ← elemT P t1
      if oneT n ag = true ∧ z.length = n ∧ e' = e then some (.app x y n (← bytesT P e) ag (isObj hs d)) else none
    | .delete, [m, k] => do
      let t0 ← c.argTypes[0]?
      match P.underlying t0 with
      | some (.map key _) => do some (.mdel (← kindT P key) m k)
      | _ => none
    | _, _ => none

def isNilS : Operand → Bool
  | .const (.slice none 0 0) => true
  | _ => false

def isSliceT (P : Program) (t : TypeId) : Bool :=
  match P.underlying t with
  | some (.slice _) => true
  | _ => false

def isCst : Operand → Bool
  | .const _ => true
  | _ => false

def trK (P : Program) (hs : Hints) (o : Oper) : Option K :=
  match o.op with
  | .move x | .assign x => do some (.mv (← trArg hs x))
  | .pick c a b => do some (.pick (← trArg hs c) (← trArg hs a) (← trArg hs b))
  | .alloc t => do
    let z ← zeroT P t
    if isObj hs o.dst then some (.allocz z true)
    else if (match o.dst with | some d => hs.bare.contains d | none => false) then some (.bare z.length)
    else some (.allocz z false)
  | .box _ x => do some (.box (← trArg hs x) (isObj hs o.dst))
  | .build t parts => do
    let z ← zeroT P t
    match P.underlying t with
    | some (.struct fs) => do
      let pl ← placesOf P fs.toList
      some (.bld z (← trParts hs (pl[·]?) parts.toList))
    | some (.array _ e) => do
      let n ← sizeT P e
      some (.bld z (← trParts hs (fun i => some (i * n, n)) parts.toList))
    | _ => none
  | .buildSlice t len parts => do
    let e ← elemT P t
    let n ← sizeT P e
    let z ← zeroT P e
    let ps ← trParts hs (fun i => some (i * n, n)) parts.toList
    let ag ← aggT P e
    if len * n ≤ 16777216 ∧ 0 < n ∧ z.length = n ∧ oneT n ag = true then
      if isObj hs o.dst then some (.bslO len n z ps) else some (.bsl len n ag z ps)
    else none
  | .load t x => do some (.load (← trArg hs x) (← sizeT P t) (← aggT P t))
  | .store t x v => do
    let _ ← aggT P t
    some (.store (← trArg hs x) (← trArg hs v) (← sizeT P t))
  | .nilCheck x => do some (.nilc (← trArg hs x))
  | .binOp op t x y _ =>
    if isSliceT P t = true then
      (if isNilS y = true then
        (match op with
        | .eql => (trArg hs x).map (.nilS · false)
        | .neq => (trArg hs x).map (.nilS · true)
        | _ => none)
      else none)
    else do
    let ek ← eqKT P t
    if ek = .nilI ∧ ¬ (isCst x || isCst y) then none
    else some (.bin op ek (← trArg hs x) (← trArg hs y))
  | .unOp op _ x => do some (.un op (← trArg hs x))
  | .convert s d x =>
    match P.underlying s, P.underlying d with
    | some (.int _), some (.int k) => do some (.cvI k (← trArg hs x))
    | some .string, some .string => do some (.cvS (← trArg hs x))
    | _, _ => none
  | .makeInterface t x =>
    match P.underlying t with
    | some (.interface _) => none
    | some _ => do some (.mkI t (← trArg hs x))
    | none => none
  | .makeFunc fn first captured => do some (.mkF fn (← trArgs hs first.toList) (← trArgs hs captured.toList))
  | .makeMap _ none => some .mkM
  | .makeSlice t l c => do
    let e ← elemT P t
    let n ← sizeT P e
    let z ← zeroT P e
    let ag ← aggT P e
    if 0 < n ∧ z.length = n ∧ oneT n ag = true then some (.mks (← trArg hs l) (← trArg hs c) n (← bytesT P e) ag z (isObj hs o.dst)) else none
  | .slice t x lo hi mx =>
    match P.underlying t with
    | some (.slice e) => do some (.slc (← trArg hs x) (← trOpt hs lo) (← trOpt hs hi) (← trOpt hs mx) (← sizeT P e))
    | some .string => do some (.slcS (← trArg hs x) (← trOpt hs lo) (← trOpt hs hi) (← trOpt hs mx))
    | _ => none
  | .fieldAddr s x f =>
    match P.underlying s with
    | some (.struct fs) => do
      let fd ← fs[f]?
      let n ← sizeT P fd.type
      if n = 0 then none else some (.fad (← trArg hs x) fd.offset)
    | _ => none
  | .field t x f =>
    match P.underlying t with
    | some (.struct fs) => do
      let fd ← fs[f]?
      some (.fld (← trArg hs x) fd.offset (← sizeT P fd.type) (← aggT P fd.type))
    | _ => none
  | .indexAddr t x i =>
    match P.underlying t with
    | some (.slice e) => do
      let n ← sizeT P e
      if 0 < n then some (.idxS (← trArg hs x) (← trArg hs i) n) else none
    | some (.array len e) => do some (.idxP (← trArg hs x) (← trArg hs i) len (← sizeT P e))
    | _ => none
  | .index t x i =>
    match P.underlying t with
    | some .string => do some (.idxStr (← trArg hs x) (← trArg hs i))
    | some (.array len e) => do some (.idxA (← trArg hs x) (← trArg hs i) len (← sizeT P e) (← aggT P e))
    | _ => none
  | .lookup t x k ok =>
    match P.underlying t with
    | some (.map key e) => do
      some (.lkp (← kindT P key) (← trArg hs x) (← trArg hs k) (← zeroV P e) ok)
    | _ => none
  | .mapUpdate t m k v | .insert t m k v =>
    match P.underlying t with
    | some (.map key _) => do some (.mup (← kindT P key) (← trArg hs m) (← trArg hs k) (← trArg hs v))
    | _ => none
  | .range t x =>
    match P.underlying t with
    | some (.map _ _) => do some (.rng (← trArg hs x))
    | _ => none
  | .next it false => do some (.nxt (← trArg hs it))
  | .entry it => do some (.ent (← trArg hs it))
  | .typeAssert x _ t false =>
    match P.underlying t with
    | some (.interface _) => none
    | some _ => do some (.asrt t (← trArg hs x))
    | none => none
  | .extract x i => do some (.ext (← trArg hs x) i)
  | .call c => trCall P hs o.dst c
  | .panic x => do some (.pan (← trArg hs x))
  | _ => none

/-- 'all': the region's operations (a guard names one of them by its number). -/
def trOp (P : Program) (hs : Hints) (all : Array Oper) (o : Oper) : Option IOp := do
  let k ← trK P hs o
  match o.guard with
  | none => some ⟨o.dst, none, k⟩
  | some (j, want) => do
    let oj ← all[j]?
    let g ← oj.dst
    some ⟨o.dst, some (g, want), k⟩

def trOps (P : Program) (hs : Hints) (all : Array Oper) : List Oper → Option (List IOp)
  | [] => some []
  | o :: os => match trOp P hs all o, trOps P hs all os with
    | some a, some as => some (a :: as)
    | _, _ => none

def opTmps (o : Oper) : List Nat := o.op.operands.toList.filterMap fun | .tmp t => some t | _ => none

/-- The slots that an operation reads: its operands and its guard's. -/
def readsOf (all : Array Oper) (o : Oper) : List Nat :=
  opTmps o ++ (match o.guard with | some (j, _) => (match all[j]? with | some oj => oj.dst.toList | none => []) | none => [])

def dstsOk (n : Nat) (all : Array Oper) : Bool := all.all fun o => match o.dst with | some d => decide (d < n) | none => true

/-- For each operation, in the text's order: those that come ahead of it in every order (a number's bits). -/
def ancsGo : List Oper → List Nat → List Nat
  | [], acc => acc
  | o :: os, acc => ancsGo os (acc ++ [o.after.toList.foldl (fun l e => if Region.binds .any e then (1 <<< e.on) ||| acc.getD e.on 0 ||| l else l) 0])

def ancs (all : Array Oper) : List Nat := ancsGo all.toList []

def readsMem : K → Bool
  | .load .. | .len .. | .lkp .. => true
  | _ => false

/-- The places of an order: (its number in the region, its operation in both forms, what is read once more behind it). -/
def trDraw (P : Program) (hs : Hints) (all : Array Oper) : List (Nat × List Nat) → Option (List (IOp × Nat × List Nat))
  | [] => some []
  | (i, js) :: r => match all[i]?, trDraw P hs all r with
    | some o, some l => match trOp P hs all o with
      | some a => some ((a, i, js) :: l)
      | none => none
    | _, _ => none

def Arg.tmps : Arg → List Nat
  | .tmp t => [t]
  | _ => []

def optTmps : Option Arg → List Nat
  | some x => x.tmps
  | none => []

/-- The slots that an operation of the small language reads. -/
def K.tmps : K → List Nat
  | .mv x | .load x _ _ | .fad x _ | .fld x _ _ _ | .un _ x | .cvI _ x | .cvS x | .mkI _ x | .asrt _ x | .ext x _ | .len _ x | .nilc x | .nilS x _ | .box x _ | .rng x | .nxt x | .ent x | .pan x => x.tmps
  | .pick c a b | .add64 c a b => c.tmps ++ a.tmps ++ b.tmps
  | .idxS x i _ | .idxP x i _ _ | .idxStr x i | .idxA x i _ _ _ => x.tmps ++ i.tmps
  | .bin _ _ x y | .lkp _ x y _ _ | .store x y _ | .mks x y _ _ _ _ _ | .app x y _ _ _ _ | .cpy x y _ | .mdel _ x y => x.tmps ++ y.tmps
  | .mup _ m k v => m.tmps ++ k.tmps ++ v.tmps
  | .max xs | .min xs => xs.flatMap Arg.tmps
  | .slc x lo hi mx _ | .slcS x lo hi mx => x.tmps ++ optTmps lo ++ optTmps hi ++ optTmps mx
  | .bld _ ps | .bsl _ _ _ _ ps | .bslO _ _ _ ps => ps.flatMap fun p => p.2.2.tmps
  | .mkF _ a b => a.flatMap Arg.tmps ++ b.flatMap Arg.tmps
  | .call _ xs => xs.flatMap Arg.tmps
  | .callv f xs => f.tmps ++ xs.flatMap Arg.tmps
  | .lenK _ | .bare _ | .allocz _ _ | .mkM => []

def IOp.reads (o : IOp) : List Nat := o.k.tmps ++ (match o.guard with | some (g, _) => [g] | none => [])

abbrev Ord := List (IOp × Nat × List Nat)

/-- The conditions under which the order of the list stands for every order. -/
def drawOk (all : Array Oper) (an : List Nat) (l : Ord) : Bool :=
  (ancs all == an) &&
  -- each operation once
  decide ((l.map (·.2.1)).Nodup) && decide (l.length = all.size) && (List.range all.size).all (fun i => (l.map (·.2.1)).contains i) && l.all (fun x => decide (x.2.1 < all.size)) &&
  -- no two write one slot
  decide ((l.filterMap (·.1.dst)).Nodup) &&
  -- edges point to what stands ahead, in the text as here
  all.toList.zipIdx.all (fun x => x.1.after.toList.all fun e => !Region.binds .any e || decide (e.on < x.2)) &&
  l.zipIdx.all (fun x => (List.range all.size).all fun a => !(an.getD x.1.2.1 0).testBit a || ((l.take x.2).map (·.2.1)).contains a) &&
  -- who writes a slot and who reads it are in a set order
  l.all (fun x => match x.1.dst with | none => true | some d => l.all fun y => !y.1.reads.contains d || x.2.1 == y.2.1 || (an.getD y.2.1 0).testBit x.2.1 || (an.getD x.2.1 0).testBit y.2.1) &&
  -- behind an operation that changes the store all hang on it; what was read ahead of it, and does not come ahead of it in every order, is read once more (and what it names was not written since)
  l.zipIdx.all (fun x => isRd x.1.1.k || (
    ((l.drop (x.2 + 1)).all fun y => (an.getD y.2.1 0).testBit x.1.2.1) &&
    ((l.take x.2).zipIdx.all fun y => !readsMem y.1.1.k || (an.getD x.1.2.1 0).testBit y.1.2.1 ||
      (x.1.2.2.contains y.2 && ((l.take (x.2 + 1)).drop y.2).all fun z => match z.1.dst with | none => true | some d => !y.1.1.k.tmps.contains d))))

def trC (P : Program) (hs : Hints) (n : Nat) : Code → List (List Nat) → Option (C × List (List Nat))
  | .skip, ls => some (.skip, ls)
  | .region id all false, ls => do
    let l ← trOps P hs all all.toList
    if dstsOk n all then some (.reg l, ls) else none
  | .region id all true, ls => do
    let (_, an, ord) ← hs.draws.find? (·.1 == id)
    let l ← trDraw P hs all ord
    if dstsOk n all && drawOk all an l then some (.draw l, ls) else none
  | .seq a b, ls => do
    let (a, ls) ← trC P hs n a ls
    let (b, ls) ← trC P hs n b ls
    some (.seq a b, ls)
  | .cond x a b, ls => do
    let x ← trArg hs x
    let (a, ls) ← trC P hs n a ls
    let (b, ls) ← trC P hs n b ls
    some (.cond x a b, ls)
  | .block id c, ls => do
    let (c, ls) ← trC P hs n c ls
    some (.block id c, ls)
  | .loop c, ls => match ls with
    | live :: ls => do
      let (c, ls) ← trC P hs n c ls
      if live.all (· < n) then some (.loop live c, ls) else none
    | [] => none
  | .exit id, ls => some (.brk id, ls)
  | .ret, ls => some (.ret, ls)
  | _, _ => none

def trRes (P : Program) : List ResultVar → Option (List IRes)
  | [] => some []
  | .tmp t :: r => (trRes P r).map (.tmp t :: ·)
  | .cell a t :: r => match sizeT P t, aggT P t, trRes P r with
    | some n, some ag, some l => some (.cell a n ag :: l)
    | _, _, _ => none

def trF (P : Program) (hs : Hints) (f : Func) : Option IFn := do
  let c ← f.body
  let (c, _) ← trC P hs f.ntmps c hs.loops
  some ⟨f.ntmps, ← trRes P f.results.toList, c⟩

end Go.Ab
