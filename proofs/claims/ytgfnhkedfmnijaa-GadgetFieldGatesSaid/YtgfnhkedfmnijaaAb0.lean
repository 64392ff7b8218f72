/- The abstract semantics of the layer Ab: values, the small language that Go's functions are brought into, and what a run of it means (a predicate transformer over an abstract store). -/
import Derived.Calls
set_option linter.unusedVariables false
set_option linter.unusedSimpArgs false
namespace Go.Ab

inductive Cap where
  | any | full | own (s : Nat)
  deriving DecidableEq, Repr, Inhabited

/-- Values. A slice that nobody writes through is the list of its elements ('vec'); a slice that is written through lies in an object ('ref'). -/
inductive V where
  | undef
  | bool (b : Bool)
  | int (k : IntKind) (n : Int)
  | str (s : ByteArray)
  | vec (xs : List V) (c : Cap)
  | ref (id off len sz : Nat)
  | iptr (cells : List V)
  | ptr (id off : Nat)
  | lptr (stamp size off : Nat)
  | nilptr
  | map (id : Nat)
  | nilmap
  | itr (id : Nat)
  | func (fn : Fn) (first captured : List V)
  | nilfunc
  | iface (t : TypeId) (v : V)
  | niliface
  | agg (cells : List V)
  | tuple (vs : List V)
  deriving Inhabited

def V.cells : V → List V
  | .agg cs => cs
  | v => [v]

/-- Objects: cells, a map (entries in the order of their birth, and how often its keys have changed), an iterator over a map. -/
inductive O where
  | cells (cs : List V)
  | map (es : List (V × V)) (ver : Nat)
  | iter (m : Nat) (ver : Nat) (seen : List Nat)
  deriving Inhabited

structure H where
  objs : Nat → Option O
  next : Nat

def upd {α : Type} (f : Nat → α) (a : Nat) (v : α) : Nat → α := fun b => if b = a then v else f b

inductive Arg where
  | tmp (t : Nat)
  | cst (v : V)
  | glob (g : Nat) (cells : List V)
  deriving Inhabited

/-- A comparable kind of one cell: whole number, string, bool. -/
inductive KK where
  | i | s | b
  deriving Inhabited, DecidableEq

/-- How the values of one type are compared. -/
inductive EqK where
  | plain
  | bool
  | agg (fields : List (Nat × KK))
  | nilM
  | nilI
  deriving Inhabited, DecidableEq

inductive Mode where
  | vec | obj | bare | zero
  deriving Inhabited, DecidableEq

/-- The operations. 'sz': an element's cells; 'ag': whether it is an aggregate. -/
inductive K where
  | mv (x : Arg)
  | pick (c a b : Arg)
  | load (x : Arg) (n : Nat) (ag : Bool)
  | fad (x : Arg) (off : Nat)
  | idxS (x i : Arg) (sz : Nat)
  | idxP (x i : Arg) (len sz : Nat)
  | idxStr (x i : Arg)
  | idxA (x i : Arg) (len sz : Nat) (ag : Bool)
  | fld (x : Arg) (off n : Nat) (ag : Bool)
  | bin (op : BinOp) (ek : EqK) (x y : Arg)
  | un (op : UnOp) (x : Arg)
  | cvI (k : IntKind) (x : Arg)
  | cvS (x : Arg)
  | mkI (t : TypeId) (x : Arg)
  | asrt (t : TypeId) (x : Arg)
  | ext (x : Arg) (i : Nat)
  | len (q : KK) (x : Arg)
  | lenK (n : Nat)
  | max (xs : List Arg)
  | min (xs : List Arg)
  | slc (x : Arg) (lo hi mx : Option Arg) (sz : Nat)
  | slcS (x : Arg) (lo hi mx : Option Arg)
  | bld (zero : List V) (parts : List (Nat × Nat × Arg))
  | mkF (fn : Fn) (first captured : List Arg)
  | nilc (x : Arg)
  | bsl (len sz : Nat) (ag : Bool) (zero : List V) (parts : List (Nat × Nat × Arg))
  | lkp (q : KK) (m k : Arg) (zero : V) (ok : Bool)
  | bare (size : Nat)
  | add64 (x y c : Arg)
  -- what changes the store
  | store (x v : Arg) (n : Nat)
  | box (x : Arg) (obj : Bool)
  | allocz (zero : List V) (obj : Bool)
  | bslO (len sz : Nat) (zero : List V) (parts : List (Nat × Nat × Arg))
  | mks (len cap : Arg) (sz bytes : Nat) (ag : Bool) (zero : List V) (obj : Bool)
  | app (x y : Arg) (sz bytes : Nat) (ag : Bool) (obj : Bool)
  | cpy (x y : Arg) (sz : Nat)
  | mkM
  | mup (q : KK) (m k v : Arg)
  | mdel (q : KK) (m k : Arg)
  | rng (m : Arg)
  | nxt (it : Arg)
  | ent (it : Arg)
  | call (f : FuncId) (args : List Arg)
  | callv (f : Arg) (args : List Arg)
  | pan (x : Arg)
  | nilS (x : Arg) (neg : Bool)
  deriving Inhabited

structure IOp where
  dst : Option Nat
  guard : Option (Nat × Bool)
  k : K
  deriving Inhabited

/-- 'draw': the operations in the order in which they are taken here, each with its number in the region, and the numbers (places in this list) of those that are read once more behind it. -/
inductive C where
  | skip
  | reg (ops : List IOp)
  | draw (ops : List (IOp × Nat × List Nat))
  | seq (a b : C)
  | cond (c : Arg) (a b : C)
  | block (id : Nat) (c : C)
  | loop (live : List Nat) (c : C)
  | brk (id : Nat)
  | ret
  deriving Inhabited

inductive IRes where
  | tmp (t : Nat)
  | cell (t n : Nat) (ag : Bool)
  deriving Inhabited

structure IFn where
  ntmps : Nat
  results : List IRes
  body : C
  deriving Inhabited

inductive Out where
  | ret (v : V)
  | pan (v : V)
  deriving Inhabited

inductive Ex where
  | normal | brk (id : Nat) | ret | pan (v : V)
  deriving Inhabited

/-- A function's state: slots, local boxes (by their stamps), the next stamp, the stamps that are used up, the store. -/
structure S where
  ρ : Nat → V
  m : Nat → Option (List V)
  n : Nat
  u : List Nat
  h : H

def evA (ρ : Nat → V) : Arg → V
  | .tmp t => ρ t
  | .cst v => v
  | .glob _ cells => .iptr cells

/-- What a value becomes where it leaves the frame: no right to append in place; 'none': it may not leave. -/
def V.out : V → Option V
  | .vec xs (.own _) => some (.vec xs .any)
  | .lptr .. => none
  | .itr _ => none
  | .tuple _ => none
  | .undef => none
  | v => some v

def outs : List V → Option (List V)
  | [] => some []
  | v :: vs => match v.out, outs vs with
    | some a, some as => some (a :: as)
    | _, _ => none

def asB : V → Option Bool
  | .bool b => some b
  | _ => none

def asI : V → Option (IntKind × Int)
  | .int k n => some (k, n)
  | _ => none

def mkEl (ag : Bool) (cs : List V) : V := if ag then .agg cs else cs.headD .undef

/-- The elements of a slice. -/
def chunk (ag : Bool) (sz : Nat) : Nat → List V → List V
  | 0, _ => []
  | n + 1, cs => mkEl ag (cs.take sz) :: chunk ag sz n (cs.drop sz)

def H.get (h : H) (id : Nat) : Option (List V) :=
  match h.objs id with
  | some (.cells cs) => some cs
  | _ => none

def H.mapAt (h : H) (id : Nat) : Option (List (V × V) × Nat) :=
  match h.objs id with
  | some (.map es v) => some (es, v)
  | _ => none

def H.set (h : H) (id : Nat) (o : O) : H := ⟨upd h.objs id (some o), h.next⟩
def H.new (h : H) (o : O) : H := ⟨upd h.objs h.next (some o), h.next + 1⟩
def H.move (h : H) (id : Nat) (o : O) : H := ⟨upd (upd h.objs id none) h.next (some o), h.next + 1⟩

/-- Cells of a readable slice, flat. -/
def flat (h : H) : V → Option (List V)
  | .vec xs _ => some (xs.flatMap V.cells)
  | .ref id off len sz => match h.get id with
    | some cs => some ((cs.drop off).take (len * sz))
    | none => none
  | _ => none

def lenV : V → Option Nat
  | .vec xs _ => some xs.length
  | .ref _ _ len _ => some len
  | _ => none

/-- Put 'part' into 'cs' from place 'off' on. -/
def over (cs : List V) (off : Nat) (part : List V) : List V := cs.take off ++ part ++ cs.drop (off + part.length)

def fillV (ρ : Nat → V) : List V → List (Nat × Nat × Arg) → Option (List V)
  | cs, [] => some cs
  | cs, (off, size, x) :: rest => match (evA ρ x).out with
    | some v => if v.cells.length = size ∧ off + size ≤ cs.length then fillV ρ (over cs off v.cells) rest else none
    | none => none

def cmpI (op : BinOp) (x y : Int) : Option V :=
  match op with
  | .eql => some (.bool (x == y))
  | .neq => some (.bool (x != y))
  | .lss => some (.bool (decide (x < y)))
  | .leq => some (.bool (decide (x ≤ y)))
  | .gtr => some (.bool (decide (x > y)))
  | .geq => some (.bool (decide (x ≥ y)))
  | _ => none

def bits2 (op : BinOp) (k : IntKind) (x y : Int) : Option V :=
  let a := BitVec.ofInt k.bits x
  let b := BitVec.ofInt k.bits y
  match op with
  | .and => some (.int k (k.wrap (a &&& b).toNat))
  | .or => some (.int k (k.wrap (a ||| b).toNat))
  | .xor => some (.int k (k.wrap (a ^^^ b).toNat))
  | .andNot => some (.int k (k.wrap (a &&& ~~~b).toNat))
  | _ => none

def binI (op : BinOp) (k : IntKind) (x : Int) (k' : IntKind) (y : Int) : Option V :=
  match op with
  | .shl => if y < 0 then none else some (.int k (k.wrap (x * 2 ^ (min y.toNat k.bits))))
  | .shr => if y < 0 then none else some (.int k (x.fdiv (2 ^ (min y.toNat k.bits))))
  | op => if k = k' then
      match op with
      | .add => some (.int k (k.wrap (x + y)))
      | .sub => some (.int k (k.wrap (x - y)))
      | .mul => some (.int k (k.wrap (x * y)))
      | .quo => if y = 0 then none else some (.int k (k.wrap (x.tdiv y)))
      | .rem => if y = 0 then none else some (.int k (x.tmod y))
      | .and | .or | .xor | .andNot => bits2 op k x y
      | op => cmpI op x y
    else none

def binS (op : BinOp) (x y : ByteArray) : Option V :=
  match op with
  | .add => if x.size + y.size ≤ 9223372036854775807 then some (.str (x ++ y)) else none
  | .eql => some (.bool (x == y))
  | .neq => some (.bool (x != y))
  | .lss => some (.bool (Op.bytesLess x.toList y.toList))
  | _ => none

/-- Are two cells of a comparable kind equal? (whole numbers, strings, bools) -/
def eqC : KK → V → V → Option Bool
  | .i, .int k a, .int k' b => if k = k' then some (a == b) else none
  | .s, .str a, .str b => some (a == b)
  | .b, .bool a, .bool b => some (a == b)
  | _, _, _ => none

def eqCs : List (Nat × KK) → List V → List V → Option Bool
  | [], _, _ => some true
  | (off, q) :: fs, xs, ys => match xs[off]?, ys[off]? with
    | some x, some y => match eqC q x y with
      | some true => eqCs fs xs ys
      | some false => some false
      | none => none
    | _, _ => none

def isNilM : V → Option Bool
  | .nilmap => some true
  | .map _ => some false
  | _ => none

def isNilI : V → Option Bool
  | .niliface => some true
  | .iface _ _ => some false
  | _ => none

def nils : Option Bool → Option Bool → Option Bool
  | some a, some true => some a
  | some true, some b => some b
  | _, _ => none

def eqV (ek : EqK) (x y : V) : Option Bool :=
  match ek, x, y with
  | .bool, .bool a, .bool b => some (a == b)
  | .agg fs, .agg xs, .agg ys => eqCs fs xs ys
  | .nilM, x, y => nils (isNilM x) (isNilM y)
  | .nilI, x, y => nils (isNilI x) (isNilI y)
  | _, _, _ => none

def binV (op : BinOp) (ek : EqK) (x y : V) : Option V :=
  match x, y with
  | .int k a, .int k' b => binI op k a k' b
  | .str a, .str b => binS op a b
  | x, y => match op, eqV ek x y with
    | .eql, some b => some (.bool b)
    | .neq, some b => some (.bool !b)
    | _, _ => none

def unV (op : UnOp) (x : V) : Option V :=
  match op, x with
  | .neg, .int k n => some (.int k (k.wrap (0 - n)))
  | .xor, .int k n => bits2 .xor k (if k.signed then -1 else k.max) n
  | .not, .bool b => some (.bool !b)
  | _, _ => none

def maxV : V → List V → Option V
  | v, [] => some v
  | .int k x, .int _ y :: r => maxV (.int k (if y > x then y else x)) r
  | _, _ => none

def minV : V → List V → Option V
  | v, [] => some v
  | .int k x, .int _ y :: r => minV (.int k (if y < x then y else x)) r
  | _, _ => none

def bound (x : Option V) (dflt cap : Nat) : Option Nat :=
  match x with
  | none => some dflt
  | some (.int _ i) => if 0 ≤ i ∧ i ≤ cap then some i.toNat else none
  | some _ => none

def slcV (x : V) (lo hi mx : Option V) (sz : Nat) : Option V :=
  match x with
  | .vec xs c => match mx with
    | none => match bound hi xs.length xs.length with
      | some b => match bound lo 0 b with
        | some a => if a = 0 ∨ ∀ e ∈ xs, e.cells.length = sz then some (.vec ((xs.take b).drop a) (if c = .full ∧ b = xs.length then .full else .any)) else none
        | none => none
      | none => none
    | some _ => match bound mx 0 xs.length with
      | some m => match (if hi.isSome then bound hi 0 m else none) with
        | some b => match bound lo 0 b with
          | some a => if a = 0 ∨ ∀ e ∈ xs, e.cells.length = sz then some (.vec ((xs.take b).drop a) (if b = m then .full else .any)) else none
          | none => none
        | none => none
      | none => none
  | .ref id off len z => match mx with
    | none => if z = sz then match bound hi len len with
      | some b => match bound lo 0 b with
        | some a => if a < b then some (.ref id (off + a * sz) (b - a) sz) else some (.vec [] .any)
        | none => none
      | none => none else none
    | some _ => none
  | _ => none

def slcSV (x : V) (lo hi mx : Option V) : Option V :=
  match x with
  | .str s => match mx, bound hi s.size s.size with
    | none, some b => match bound lo 0 b with
      | some a => some (.str (s.extract a b))
      | none => none
    | _, _ => none
  | _ => none

def findE (q : KK) (k : V) : List (V × V) → Nat → Option (Option (Nat × V))
  | [], _ => some none
  | (a, v) :: es, i => match eqC q k a with
    | some true => some (some (i, v))
    | some false => findE q k es (i + 1)
    | none => none

def lkpV (h : H) (q : KK) (m k : V) (zero : V) (ok : Bool) : Option V :=
  let give (v : V) (b : Bool) : V := if ok then .tuple [v, .bool b] else v
  match m with
  | .nilmap => some (give zero false)
  | .map id => match h.mapAt id with
    | some (es, _) => match findE q k es 0 with
      | some (some (_, v)) => some (give v true)
      | some none => some (give zero false)
      | none => none
    | none => none
  | _ => none

def idxSV (x i : V) (sz : Nat) : Option V :=
  match x, i with
  | .vec xs _, .int _ i => if 0 ≤ i then match xs[i.toNat]? with
      | some e => if e.cells.length = sz then some (.iptr e.cells) else none
      | none => none
    else none
  | .ref id off len z, .int _ i => if 0 ≤ i ∧ i < len ∧ z = sz then some (.ptr id (off + i.toNat * sz)) else none
  | _, _ => none

def addP (p : V) (off : Nat) : Option V :=
  match p with
  | .iptr cs => if off ≤ cs.length then some (.iptr (cs.drop off)) else none
  | .ptr id o => some (.ptr id (o + off))
  | .lptr s z o => some (.lptr s z (o + off))
  | _ => none

def takeV (cs : List V) (off n : Nat) (ag : Bool) : Option V :=
  if ag then (if off + n ≤ cs.length then some (.agg ((cs.drop off).take n)) else none) else cs[off]?

/-- The same out of a local box: an aggregate's parts lose the right to append. -/
def takeL (cs : List V) (off n : Nat) (ag : Bool) : Option V :=
  if ag then (if off + n ≤ cs.length then (outs ((cs.drop off).take n)).map .agg else none) else cs[off]?

def loadV (m : Nat → Option (List V)) (h : H) (p : V) (n : Nat) (ag : Bool) : Option V :=
  match p with
  | .iptr cs => takeV cs 0 n ag
  | .ptr id o => match h.get id with
    | some cs => takeV cs o n ag
    | none => none
  | .lptr s _ o => match m s with
    | some cs => takeL cs o n ag
    | none => none
  | _ => none

def add64V (x y c : V) : Option V :=
  match x, y, c with
  | .int .u64 x, .int .u64 y, .int .u64 c =>
    if 0 ≤ x ∧ 0 ≤ y ∧ 0 ≤ c ∧ c ≤ 1 then some (.tuple [.int .u64 ((x + y + c) % 18446744073709551616), .int .u64 ((x + y + c) / 18446744073709551616)]) else none
  | _, _, _ => none

/-- The readings: what an operation that changes nothing yields. -/
def rd (st : S) : K → Option V
  | .mv x => some (evA st.ρ x)
  | .pick c a b => match asB (evA st.ρ c) with
    | some t => some (if t then evA st.ρ a else evA st.ρ b)
    | none => none
  | .load x n ag => loadV st.m st.h (evA st.ρ x) n ag
  | .fad x off => addP (evA st.ρ x) off
  | .idxS x i sz => idxSV (evA st.ρ x) (evA st.ρ i) sz
  | .idxP x i len sz => match evA st.ρ i with
    | .int _ i => if 0 ≤ i ∧ i < len then addP (evA st.ρ x) (i.toNat * sz) else none
    | _ => none
  | .idxStr x i => match evA st.ρ x, evA st.ρ i with
    | .str s, .int _ i => if 0 ≤ i then match s.data.toList[i.toNat]? with
        | some b => some (.int .u8 b.toNat)
        | none => none
      else none
    | _, _ => none
  | .idxA x i len sz ag => match evA st.ρ x, evA st.ρ i with
    | .agg cs, .int _ i => if 0 ≤ i ∧ i < len then takeV cs (i.toNat * sz) sz ag else none
    | _, _ => none
  | .fld x off n ag => match evA st.ρ x with
    | .agg cs => takeV cs off n ag
    | _ => none
  | .bin op ek x y => binV op ek (evA st.ρ x) (evA st.ρ y)
  | .un op x => unV op (evA st.ρ x)
  | .cvI k x => match evA st.ρ x with
    | .int _ n => some (.int k (k.wrap n))
    | _ => none
  | .cvS x => match evA st.ρ x with
    | .str s => some (.str s)
    | _ => none
  | .mkI t x => match (evA st.ρ x).out with
    | some v => some (.iface t v)
    | none => none
  | .asrt t x => match evA st.ρ x with
    | .iface t' v => if t' = t then some v else none
    | _ => none
  | .ext x i => match evA st.ρ x with
    | .tuple vs => vs[i]?
    | _ => none
  | .len q x => match q, evA st.ρ x with
    | .i, .vec xs _ => some (.int .i64 xs.length)
    | .i, .ref _ _ n _ => some (.int .i64 n)
    | .s, .str s => some (.int .i64 s.size)
    | .b, .nilmap => some (.int .i64 0)
    | .b, .map id => match st.h.mapAt id with
      | some (es, _) => some (.int .i64 es.length)
      | none => none
    | _, _ => none
  | .lenK n => some (.int .i64 n)
  | .max xs => match xs.map (evA st.ρ) with
    | v :: r => maxV v r
    | [] => none
  | .min xs => match xs.map (evA st.ρ) with
    | v :: r => minV v r
    | [] => none
  | .slc x lo hi mx sz => slcV (evA st.ρ x) (lo.map (evA st.ρ)) (hi.map (evA st.ρ)) (mx.map (evA st.ρ)) sz
  | .slcS x lo hi mx => slcSV (evA st.ρ x) (lo.map (evA st.ρ)) (hi.map (evA st.ρ)) (mx.map (evA st.ρ))
  | .bld zero parts => match fillV st.ρ zero parts with
    | some cs => some (.agg cs)
    | none => none
  | .mkF fn first captured => match outs (first.map (evA st.ρ)), outs (captured.map (evA st.ρ)) with
    | some a, some b => some (.func fn a b)
    | _, _ => none
  | .nilc x => match evA st.ρ x with
    | .iptr cs => some (.iptr cs)
    | .ptr id o => some (.ptr id o)
    | .lptr s z o => some (.lptr s z o)
    | _ => none
  | .bsl len sz ag zero parts => match fillV st.ρ ((List.replicate len zero).flatten) parts with
    | some cs => some (.vec (chunk ag sz len cs) .full)
    | none => none
  | .lkp q m k zero ok => lkpV st.h q (evA st.ρ m) (evA st.ρ k) zero ok
  | .add64 x y c => add64V (evA st.ρ x) (evA st.ρ y) (evA st.ρ c)
  | _ => none

def isRd : K → Bool
  | .store .. | .box .. | .allocz .. | .bslO .. | .mks .. | .app .. | .cpy .. | .mkM | .mup .. | .mdel .. | .rng .. | .nxt .. | .ent .. | .call .. | .callv .. | .pan .. | .nilS .. => false
  | _ => true

abbrev CallT := FuncId → List V → H → (Out → H → Prop) → Prop

def S.put (st : S) (d : Option Nat) (v : V) : S :=
  match d with
  | some d => { st with ρ := upd st.ρ d v }
  | none => st

def S.withH (st : S) (h : H) : S := { st with h := h }

/-- What is left of a frame that a panic leaves. -/
def S.blank (h : H) : S := ⟨fun _ => .undef, fun _ => none, 0, [], h⟩

/-- The result of a call, in the caller's frame: 'own 0' is the callee's sign for 'the right to append comes with it'. -/
def stampV (s : Nat) : V → V
  | .vec xs (.own _) => .vec xs (.own s)
  | v => v

def landV (s : Nat) : V → V
  | .tuple vs => .tuple (vs.map (stampV s))
  | v => stampV s v

def mupV (h : H) (q : KK) (m k v : V) : Option H :=
  match m with
  | .map id => match h.mapAt id with
    | some (es, ver) => match findE q k es 0 with
      | some (some (i, _)) => some (h.set id (.map (es.set i (k, v)) ver))
      | some none => some (h.set id (.map (es ++ [(k, v)]) (ver + 1)))
      | none => none
    | none => none
  | _ => none

def mdelV (h : H) (q : KK) (m k : V) : Option H :=
  match m with
  | .nilmap => some h
  | .map id => match h.mapAt id with
    | some (es, ver) => match findE q k es 0 with
      | some (some (i, _)) => some (h.set id (.map (es.eraseIdx i) (ver + 1)))
      | some none => some h
      | none => none
    | none => none
  | _ => none

def storeV (st : S) (p v : V) (n : Nat) : Option S :=
  if v.cells.length = n ∧ 0 < n then
    match p with
    | .lptr s z o => match v with
      | .lptr .. => none
      | .itr _ => none
      | .tuple _ => none
      | .undef => none
      | v =>
        if o = 0 ∧ n = z then some { st with m := upd st.m s (some v.cells) } else
        match st.m s with
        | some cs => if o + n ≤ cs.length then some { st with m := upd st.m s (some (over cs o v.cells)) } else none
        | none => none
    | .ptr id o => match v.out, st.h.get id with
      | some v, some cs => if o + n ≤ cs.length then some (st.withH (st.h.set id (.cells (over cs o v.cells)))) else none
      | _, _ => none
    | _ => none
  else none

def isInt : V → Option Int
  | .int _ n => some n
  | _ => none

def most : Nat := 4294967296

/-- An append: what the slot gets, which stamp is used up, the store. -/
def appV (st : S) (s : Nat) (x y : V) (sz bytes : Nat) (ag obj : Bool) : Option (V × S) :=
  match lenV y, flat st.h y with
  | some k, some cs =>
    if cs.length = k * sz ∧ 0 < sz ∧ bytes ≤ 4096 then
    match obj with
    | false => match x with
      | .vec xs c =>
        if xs.length + k ≤ most ∧ (∀ e ∈ xs, e.cells.length = sz) then
          if k = 0 then some (x, st) else
          match c with
          | .full => some (.vec (xs ++ chunk ag sz k cs) (.own s), st)
          | .own s' => if s' ∈ st.u then none else some (.vec (xs ++ chunk ag sz k cs) (.own s), { st with u := s' :: st.u })
          | .any => none
        else none
      | _ => none
    | true => match x with
      | .vec [] .full => if k ≤ most ∧ 0 < k then some (.ref st.h.next 0 k sz, st.withH (st.h.new (.cells cs))) else none
      | .ref id 0 len z => match st.h.get id with
        | some old => if old.length = len * sz ∧ z = sz ∧ len + k ≤ most ∧ 0 < k then
            some (.ref st.h.next 0 (len + k) sz, st.withH (st.h.move id (.cells (old ++ cs)))) else none
        | none => none
      | _ => none
    else none
  | _, _ => none

/-- What an operation that changes the store does: 'K' is what is to hold behind it. -/
def eff (call : CallT) (s : Nat) (st : S) (d : Option Nat) : K → (Ex → S → Prop) → Prop
  | .store x v n, K => match storeV st (evA st.ρ x) (evA st.ρ v) n with
    | some st' => K .normal (st'.put d .undef)
    | none => False
  | .box x obj, K =>
    match obj with
    | false => match evA st.ρ x with
      | .lptr .. => False
      | .itr _ => False
      | .tuple _ => False
      | .undef => False
      | v => K .normal { (st.put d (.lptr s v.cells.length 0)) with m := upd st.m s (some v.cells) }
    | true => match (evA st.ρ x).out with
      | some v => K .normal ((st.withH (st.h.new (.cells v.cells))).put d (.ptr st.h.next 0))
      | none => False
  | .allocz zero obj, K =>
    match obj with
    | false => K .normal { (st.put d (.lptr s zero.length 0)) with m := upd st.m s (some zero) }
    | true => K .normal ((st.withH (st.h.new (.cells zero))).put d (.ptr st.h.next 0))
  | .bslO len sz zero parts, K => match fillV st.ρ ((List.replicate len zero).flatten) parts with
    | some cs => K .normal ((st.withH (st.h.new (.cells cs))).put d (.ref st.h.next 0 len sz))
    | none => False
  | .mks l c sz bytes ag zero obj, K => match isInt (evA st.ρ l), isInt (evA st.ρ c) with
    | some l, some c =>
      if 0 ≤ l ∧ l = c ∧ l ≤ most ∧ bytes ≤ 4096 ∧ 0 < sz then
        if obj then K .normal ((st.withH (st.h.new (.cells (List.replicate l.toNat zero).flatten))).put d (.ref st.h.next 0 l.toNat sz))
        else K .normal (st.put d (.vec (List.replicate l.toNat (mkEl ag zero)) .full))
      else False
    | _, _ => False
  | .app x y sz bytes ag obj, K => match appV st s (evA st.ρ x) (evA st.ρ y) sz bytes ag obj with
    | some (v, st') => K .normal (st'.put d v)
    | none => False
  | .mkM, K => K .normal ((st.withH (st.h.new (.map [] 0))).put d (.map st.h.next))
  | .mup q m k v, K => match (evA st.ρ v).out, (evA st.ρ k).out with
    | some v, some k => match mupV st.h q (evA st.ρ m) k v with
      | some h => K .normal ((st.withH h).put d .undef)
      | none => False
    | _, _ => False
  | .mdel q m k, K => match mdelV st.h q (evA st.ρ m) (evA st.ρ k) with
    | some h => K .normal ((st.withH h).put d (.tuple []))
    | none => False
  | .rng m, K => match evA st.ρ m with
    | .map id => match st.h.mapAt id with
      | some (_, ver) => K .normal ((st.withH (st.h.new (.iter id ver []))).put d (.itr st.h.next))
      | none => False
    | _ => False
  | .nxt it, K => match evA st.ρ it with
    | .itr i => match st.h.objs i with
      | some (.iter id ver seen) => match st.h.mapAt id with
        | some (es, ver') => ver' = ver ∧
          ((∀ j, j < es.length → j ∈ seen) → K .normal (st.put d (.tuple [.bool false]))) ∧
          (∀ j k v, es[j]? = some (k, v) → j ∉ seen → K .normal ((st.withH (st.h.set i (.iter id ver (j :: seen)))).put d (.tuple [.bool true, k, v])))
        | none => False
      | _ => False
    | _ => False
  | .ent it, K => match evA st.ρ it with
    | .itr i => match st.h.objs i with
      | some (.iter id ver (j :: _)) => match st.h.mapAt id with
        | some (es, ver') => match es[j]? with
          | some (k, v) => ver' = ver ∧ K .normal (st.put d (.tuple [k, v]))
          | none => False
        | none => False
      | _ => False
    | _ => False
  | .call f args, K => match outs (args.map (evA st.ρ)) with
    | some vs => call f vs st.h fun o h' => match o with
      | .ret v => K .normal ((st.withH h').put d (landV s v))
      | .pan v => K (.pan v) (.blank h')
    | none => False
  | .callv f args, K => match evA st.ρ f with
    | .func (.func g) first captured => match outs (args.map (evA st.ρ)) with
      | some vs => call g (first ++ vs ++ captured) st.h fun o h' => match o with
        | .ret v => K .normal ((st.withH h').put d (landV s v))
        | .pan v => K (.pan v) (.blank h')
      | none => False
    | _ => False
  | .pan x, K => match (evA st.ρ x).out with
    | some (.iface t v) => K (.pan (.iface t v)) (.blank st.h)
    | _ => False
  | .nilS x neg, K => match evA st.ρ x with
    | .vec xs _ => (xs = [] → K .normal (st.put d (.bool !neg))) ∧ K .normal (st.put d (.bool neg))
    | .ref .. => K .normal (st.put d (.bool neg))
    | _ => False
  | _, _ => False

/-- Is the operation to be carried out? -/
def wantI (st : S) (o : IOp) : Option Bool :=
  match o.guard with
  | none => some true
  | some (g, want) => match asB (st.ρ g) with
    | some b => some (b == want)
    | none => none

/-- One operation that is carried out, with its stamp. -/
def op1 (call : CallT) (s : Nat) (o : IOp) (st : S) (K : Ex → S → Prop) : Prop :=
  match o.k with
  | .bare size => K .normal (st.put o.dst (.lptr s size 0))
  | k => if isRd k then match rd st k with
      | some v => K .normal (st.put o.dst v)
      | none => False
    else eff call s st o.dst k K

def Ex.then (next : S → Prop) (K : Ex → S → Prop) : Ex → S → Prop
  | .normal, st => next st
  | e, st => K e st

def S.tick (st : S) : S := { st with n := st.n + 1 }

def ops (call : CallT) : List IOp → S → (Ex → S → Prop) → Prop
  | [], st, K => K .normal st
  | o :: os, st, K => match wantI st o with
    | some true => op1 call st.n o st (Ex.then (fun st' => ops call os st'.tick K) K)
    | some false => ops call os (st.put o.dst .undef).tick K
    | none => False

/-- The reading once more behind 'here': those of 'js' still read the same. -/
def again (st : S) (past : List (Option K × V)) : List Nat → Prop
  | [] => True
  | j :: js => match past[j]? with
    | some (some k, v) => rd st k = some v ∧ again st past js
    | _ => again st past js

def draws (call : CallT) : List (IOp × Nat × List Nat) → List (Option K × V) → S → (Ex → S → Prop) → Prop
  | [], _, st, K => K .normal st
  | (o, _, js) :: os, past, st, K => match wantI st o with
    | some true => op1 call st.n o st (Ex.then (fun st' => again st' past js ∧
        draws call os (past ++ [(if isRd o.k then some o.k else none, match o.dst with | some d => st'.ρ d | none => .undef)]) st'.tick K) K)
    | some false => draws call os (past ++ [(none, .undef)]) (st.put o.dst .undef).tick K
    | none => False

/-- At a loop's head only what is live is kept; stamps are counted anew. -/
def seekS (mp : List (Nat × Nat)) (s : Nat) : Option Nat := (mp.find? (·.1 == s)).map (·.2)

/-- Renaming of stamps at a loop's head: a used stamp is dropped. -/
def renV (u : List Nat) (mp : List (Nat × Nat)) : V → V × List (Nat × Nat)
  | .vec xs (.own s) => if s ∈ u then (.vec xs .any, mp) else match seekS mp s with
    | some t => (.vec xs (.own t), mp)
    | none => (.vec xs (.own mp.length), mp ++ [(s, mp.length)])
  | .lptr .. | .tuple .. => (.undef, mp)
  | v => (v, mp)

def renVs (u : List Nat) (mp : List (Nat × Nat)) : List V → List V × List (Nat × Nat)
  | [] => ([], mp)
  | v :: vs => match renV u mp v with
    | (a, mp) => match renVs u mp vs with
      | (as, mp) => (a :: as, mp)

/-- The frame that is kept: slots, boxes, which stamp has become which. -/
structure Kept where
  ρ : Nat → V
  m : Nat → Option (List V)
  mp : List (Nat × Nat)

def clear1 (st : S) (q : Kept) (t : Nat) : Kept :=
  match st.ρ t with
  | .lptr s z o => match seekS q.mp s with
    | some s' => ⟨upd q.ρ t (.lptr s' z o), q.m, q.mp⟩
    | none => match st.m s with
      | some cs => match renVs st.u (q.mp ++ [(s, q.mp.length)]) cs with
        | (cs, mp) => ⟨upd q.ρ t (.lptr q.mp.length z o), upd q.m q.mp.length (some cs), mp⟩
      | none => q
  | v => match renV st.u q.mp v with
    | (v, mp) => ⟨upd q.ρ t v, q.m, mp⟩

def clear (live : List Nat) (st : S) : S :=
  match live.foldl (clear1 st) ⟨fun _ => .undef, fun _ => none, []⟩ with
  | ⟨ρ, m, mp⟩ => ⟨ρ, m, mp.length, [], st.h⟩

def loopN (live : List Nat) (body : S → (Ex → S → Prop) → Prop) : Nat → S → (Ex → S → Prop) → Prop
  | 0, _, _ => False
  | n + 1, st, K => body (clear live st) (Ex.then (fun st' => loopN live body n st' K) K)

def code (call : CallT) (fuel : Nat) : C → S → (Ex → S → Prop) → Prop
  | .skip, st, K => K .normal st
  | .reg os, st, K => ops call os st K
  | .draw os, st, K => draws call os [] st K
  | .seq a b, st, K => code call fuel a st (Ex.then (fun st' => code call fuel b st' K) K)
  | .cond c a b, st, K => match asB (evA st.ρ c) with
    | some t => if t = true then code call fuel a st K else code call fuel b st K
    | none => False
  | .block id c, st, K => code call fuel c st fun e st' => match e with
    | .brk i => if i = id then K .normal st' else K (.brk i) st'
    | e => K e st'
  | .loop live c, st, K => loopN live (code call fuel c) fuel st K
  | .brk i, st, K => K (.brk i) st
  | .ret, st, K => K .ret st

/-- A function's results as they leave: an unused right to append is told as 'own 0', of one component at most. -/
def outR (u : List Nat) : V → Option V
  | .vec xs (.own s) => some (.vec xs (if s ∈ u then .any else .own 0))
  | v => v.out

def outRs (u : List Nat) : List V → Option (List V)
  | [] => some []
  | v :: vs => match outR u v with
    | some (.vec xs (.own s)) => (outs vs).map (.vec xs (.own s) :: ·)
    | some a => (outRs u vs).map (a :: ·)
    | none => none

def resV (st : S) : IRes → Option V
  | .tmp t => some (st.ρ t)
  | .cell t n ag => loadV st.m st.h (st.ρ t) n ag

def resVs (st : S) : List IRes → Option (List V)
  | [] => some []
  | r :: rs => match resV st r, resVs st rs with
    | some v, some vs => some (v :: vs)
    | _, _ => none

def finish (st : S) (rs : List IRes) : Option V :=
  match resVs st rs with
  | some [v] => outR st.u v
  | some vs => (outRs st.u vs).map .tuple
  | none => none

def args0 (l : List V) : Nat → V := fun t => l.getD t .undef

structure Env where
  ir : FuncId → Option IFn
  ext : FuncId → Option (CallT → List V → H → (Out → H → Prop) → Prop)

def body (E : Env) (call : CallT) (fuel : Nat) (F : IFn) (args : List V) (h : H) (K : Out → H → Prop) : Prop :=
  args.length ≤ F.ntmps ∧ code call fuel F.body ⟨args0 args, fun _ => none, 0, [], h⟩ fun e st => match e with
    | .normal | .ret => match finish st F.results with
      | some v => K (.ret v) st.h
      | none => False
    | .pan v => K (.pan v) st.h
    | .brk _ => False

def call (E : Env) : Nat → CallT
  | 0, _, _, _, _ => False
  | n + 1, f, args, h, K => match E.ext f with
    | some x => x (call E n) args h K
    | none => match E.ir f with
      | some F => body E (call E n) n F args h K
      | none => False

end Go.Ab
