/- Part of a proof: The layer Ab (1): semantics, translation, relation, readings. (Joined by program out of ten texts.) -/
import Derived.Calls
import Derived.Laws.Sem
import Derived.Laws.World
import Derived.Laws.Cells
import Derived.Laws.StructEq
import Derived.Laws.Strings
import Derived.Laws.BytesString
import Derived.Laws.Slices
import Derived.MapKept
import Derived.Laws.Externs
import Derived.KernelRfl
set_option linter.unusedVariables false
set_option linter.unusedSimpArgs false
namespace Go.Ab
inductive Cap where
 | any | full | own (s:Nat)
 deriving DecidableEq,Repr,Inhabited
inductive V where
 | undef
 | bool (b:Bool)
 | int (k:IntKind) (n:Int)
 | str (s:ByteArray)
 | vec (xs:List V) (c:Cap)
 | ref (id off len sz:Nat)
 | iptr (cells:List V)
 | ptr (id off:Nat)
 | lptr (stamp size off:Nat)
 | nilptr
 | map (id:Nat)
 | nilmap
 | itr (id:Nat)
 | func (fn:Fn) (first captured:List V)
 | nilfunc
 | iface (t:TypeId) (v:V)
 | niliface
 | agg (cells:List V)
 | tuple (vs:List V)
 deriving Inhabited
def V.cells:V→List V
 | .agg cs=>cs
 | v=>[v]
inductive O where
 | cells (cs:List V)
 | map (es:List (V × V)) (ver:Nat)
 | iter (m:Nat) (ver:Nat) (seen:List Nat)
 deriving Inhabited
structure H where
 objs:Nat→Option O
 next:Nat
def upd {α:Type} (f:Nat→α) (a:Nat) (v:α):Nat→α:=fun b=>if b=a then v else f b
inductive Arg where
 | tmp (t:Nat)
 | cst (v:V)
 | glob (g:Nat) (cells:List V)
 deriving Inhabited
inductive KK where
 | i | s | b
 | r (n:Nat)
 deriving Inhabited,DecidableEq
inductive EqK where
 | plain
 | bool
 | agg (fields:List (Nat × KK))
 | nilM
 | nilI
 deriving Inhabited,DecidableEq
inductive K where
 | mv (x:Arg)
 | pick (c a b:Arg)
 | load (x:Arg) (n:Nat) (ag:Bool)
 | fad (x:Arg) (off:Nat)
 | idxS (x i:Arg) (sz:Nat)
 | idxP (x i:Arg) (len sz:Nat)
 | idxStr (x i:Arg)
 | idxA (x i:Arg) (len sz:Nat) (ag:Bool)
 | fld (x:Arg) (off n:Nat) (ag:Bool)
 | bin (op:BinOp) (ek:EqK) (x y:Arg)
 | un (op:UnOp) (x:Arg)
 | cvI (k:IntKind) (x:Arg)
 | cvS (x:Arg)
 | cvB (x:Arg)
 | mkI (t:TypeId) (x:Arg)
 | asrt (t:TypeId) (x:Arg)
 | ext (x:Arg) (i:Nat)
 | len (q:KK) (x:Arg)
 | lenK (n:Nat)
 | max (xs:List Arg)
 | min (xs:List Arg)
 | slc (x:Arg) (lo hi mx:Option Arg) (sz:Nat)
 | slcS (x:Arg) (lo hi mx:Option Arg)
 | bld (zero:List V) (parts:List (Nat × Nat × Arg))
 | mkF (fn:Fn) (first captured:List Arg)
 | nilc (x:Arg)
 | bsl (len sz:Nat) (ag:Bool) (zero:List V) (parts:List (Nat × Nat × Arg))
 | lkp (q:KK) (m k:Arg) (zero:V) (ok:Bool)
 | bare (size:Nat)
 | add64 (x y c:Arg)
 | store (x v:Arg) (n:Nat)
 | box (x:Arg) (obj:Bool)
 | allocz (zero:List V) (obj:Bool)
 | bslO (len sz:Nat) (zero:List V) (parts:List (Nat × Nat × Arg))
 | mks (len cap:Arg) (sz bytes:Nat) (ag:Bool) (zero:List V) (obj:Bool)
 | app (x y:Arg) (sz bytes:Nat) (ag:Bool) (obj:Bool)
 | cpy (x y:Arg) (sz:Nat)
 | mkM
 | mup (q:KK) (m k v:Arg)
 | mdel (q:KK) (m k:Arg)
 | rng (m:Arg)
 | nxt (it:Arg)
 | ent (it:Arg)
 | call (f:FuncId) (args:List Arg)
 | callv (f:Arg) (args:List Arg)
 | pan (x:Arg)
 | nilS (x:Arg) (neg:Bool)
 deriving Inhabited
structure IOp where
 dst:Option Nat
 guard:Option (Nat × Bool)
 k:K
 deriving Inhabited
inductive C where
 | skip
 | reg (ops:List IOp)
 | draw (ops:List (IOp × Nat × List Nat))
 | draw2 (ops ops2:List (IOp × Nat × List Nat))
 | seq (a b:C)
 | cond (c:Arg) (a b:C)
 | block (id:Nat) (c:C)
 | loop (live:List Nat) (c:C)
 | brk (id:Nat)
 | ret
 deriving Inhabited
inductive IRes where
 | tmp (t:Nat) (fr:Bool)
 | cell (t n:Nat) (ag fr:Bool)
 deriving Inhabited
structure IFn where
 ntmps:Nat
 results:List IRes
 body:C
 deriving Inhabited
inductive Out where
 | ret (v:V)
 | pan (v:V)
 deriving Inhabited
inductive Ex where
 | normal | brk (id:Nat) | ret | pan (v:V)
 deriving Inhabited
structure S where
 ρ:Nat→V
 m:Nat→Option (List V)
 n:Nat
 u:List Nat
 h:H
def evA (ρ:Nat→V):Arg→V
 | .tmp t=>ρ t
 | .cst v=>v
 | .glob _ cells=>.iptr cells
def V.out:V→Option V
 | .vec xs _=>some (.vec xs .any)
 | .lptr ..=>none
 | .itr _=>none
 | .tuple _=>none
 | .undef=>none
 | v=>some v
def V.outS:V→Option V
 | .vec xs .full=>some (.vec xs .full)
 | v=>v.out
def V.weak:V→V
 | .vec xs .full=>.vec xs .any
 | v=>v
def outs:List V→Option (List V)
 | []=>some []
 | v :: vs=>match v.out,outs vs with
  | some a,some as=>some (a :: as)
  | _,_=>none
def asB:V→Option Bool
 | .bool b=>some b
 | _=>none
def mkEl (ag:Bool) (cs:List V):V:=if ag then .agg cs else cs.headD .undef
def chunk (ag:Bool) (sz:Nat):Nat→List V→List V
 | 0,_=>[]
 | n + 1,cs=>mkEl ag (cs.take sz) :: chunk ag sz n (cs.drop sz)
def H.get (h:H) (id:Nat):Option (List V):=
 match h.objs id with
 | some (.cells cs)=>some cs
 | _=>none
def H.mapAt (h:H) (id:Nat):Option (List (V × V) × Nat):=
 match h.objs id with
 | some (.map es v)=>some (es,v)
 | _=>none
def H.set (h:H) (id:Nat) (o:O):H:=⟨upd h.objs id (some o),h.next⟩
def H.new (h:H) (o:O):H:=⟨upd h.objs h.next (some o),h.next + 1⟩
def H.move (h:H) (id:Nat) (o:O):H:=⟨upd (upd h.objs id none) h.next (some o),h.next + 1⟩
def flat (h:H):V→Option (List V)
 | .vec xs _=>some (xs.flatMap V.cells)
 | .ref id off len sz=>match h.get id with
  | some cs=>some ((cs.drop off).take (len * sz))
  | none=>none
 | _=>none
def lenV:V→Option Nat
 | .vec xs _=>some xs.length
 | .ref _ _ len _=>some len
 | _=>none
def over (cs:List V) (off:Nat) (part:List V):List V:=cs.take off ++ part ++ cs.drop (off + part.length)
def fillV (ρ:Nat→V):List V→List (Nat × Nat × Arg)→Option (List V)
 | cs,[]=>some cs
 | cs,(off,size,x) :: rest=>match (evA ρ x).out with
  | some v=>if v.cells.length=size∧off + size ≤ cs.length then fillV ρ (over cs off v.cells) rest else none
  | none=>none
def cmpI (op:BinOp) (x y:Int):Option V:=
 match op with
 | .eql=>some (.bool (x == y))
 | .neq=>some (.bool (x != y))
 | .lss=>some (.bool (decide (x < y)))
 | .leq=>some (.bool (decide (x ≤ y)))
 | .gtr=>some (.bool (decide (x > y)))
 | .geq=>some (.bool (decide (x ≥ y)))
 | _=>none
def Zp5 (op:BinOp) (k:IntKind) (x y:Int):Option V:=
 let a:=BitVec.ofInt k.bits x
 let b:=BitVec.ofInt k.bits y
 match op with
 | .and=>some (.int k (k.wrap (a &&& b).toNat))
 | .or=>some (.int k (k.wrap (a ||| b).toNat))
 | .xor=>some (.int k (k.wrap (a ^^^ b).toNat))
 | .andNot=>some (.int k (k.wrap (a &&& ~~~b).toNat))
 | _=>none
def binI (op:BinOp) (k:IntKind) (x:Int) (k':IntKind) (y:Int):Option V:=
 match op with
 | .shl=>if y < 0 then none else some (.int k (k.wrap (x * 2 ^ (min y.toNat k.bits))))
 | .shr=>if y < 0 then none else some (.int k (x.fdiv (2 ^ (min y.toNat k.bits))))
 | op=>if k=k' then
   match op with
   | .add=>some (.int k (k.wrap (x + y)))
   | .sub=>some (.int k (k.wrap (x - y)))
   | .mul=>some (.int k (k.wrap (x * y)))
   | .quo=>if y=0 then none else some (.int k (k.wrap (x.tdiv y)))
   | .rem=>if y=0 then none else some (.int k (x.tmod y))
   | .and | .or | .xor | .andNot=>Zp5 op k x y
   | op=>cmpI op x y
  else none
def binS (op:BinOp) (x y:ByteArray):Option V:=
 match op with
 | .add=>if x.size + y.size ≤ 9223372036854775807 then some (.str (x ++ y)) else none
 | .eql=>some (.bool (x == y))
 | .neq=>some (.bool (x != y))
 | .lss=>some (.bool (Op.bytesLess x.toList y.toList))
 | _=>none
def Zec:List V→List V→Option Bool
 | [],[]=>some true
 | .int k a :: xs,.int k' b :: ys=>if k=k' then (Zec xs ys).map fun r=>(a == b) && r else none
 | _,_=>none
def eqC:KK→V→V→Option Bool
 | .r n,.agg xs,.agg ys=>if xs.length=n∧ys.length=n then Zec xs ys else none
 | .i,.int k a,.int k' b=>if k=k' then some (a == b) else none
 | .s,.str a,.str b=>some (a == b)
 | .b,.bool a,.bool b=>some (a == b)
 | _,_,_=>none
def eqCs:List (Nat × KK)→List V→List V→Option Bool
 | [],_,_=>some true
 | (off,q) :: fs,xs,ys=>match xs[off]?,ys[off]? with
  | some x,some y=>match eqC q x y with
   | some true=>eqCs fs xs ys
   | some false=>some false
   | none=>none
  | _,_=>none
def isNilM:V→Option Bool
 | .nilmap=>some true
 | .map _=>some false
 | _=>none
def isNilI:V→Option Bool
 | .niliface=>some true
 | .iface _ _=>some false
 | _=>none
def nils:Option Bool→Option Bool→Option Bool
 | some a,some true=>some a
 | some true,some b=>some b
 | _,_=>none
def eqV (ek:EqK) (x y:V):Option Bool:=
 match ek,x,y with
 | .bool,.bool a,.bool b=>some (a == b)
 | .agg fs,.agg xs,.agg ys=>eqCs fs xs ys
 | .nilM,x,y=>nils (isNilM x) (isNilM y)
 | .nilI,x,y=>nils (isNilI x) (isNilI y)
 | _,_,_=>none
def binV (op:BinOp) (ek:EqK) (x y:V):Option V:=
 match x,y with
 | .int k a,.int k' b=>binI op k a k' b
 | .str a,.str b=>binS op a b
 | x,y=>match op,eqV ek x y with
  | .eql,some b=>some (.bool b)
  | .neq,some b=>some (.bool !b)
  | _,_=>none
def unV (op:UnOp) (x:V):Option V:=
 match op,x with
 | .neg,.int k n=>some (.int k (k.wrap (0 - n)))
 | .xor,.int k n=>Zp5 .xor k (if k.signed then -1 else k.max) n
 | .not,.bool b=>some (.bool !b)
 | _,_=>none
def maxV:V→List V→Option V
 | v,[]=>some v
 | .int k x,.int _ y :: r=>maxV (.int k (if y > x then y else x)) r
 | _,_=>none
def minV:V→List V→Option V
 | v,[]=>some v
 | .int k x,.int _ y :: r=>minV (.int k (if y < x then y else x)) r
 | _,_=>none
def Zd0 (x:Option V) (dflt cap:Nat):Option Nat:=
 match x with
 | none=>some dflt
 | some (.int _ i)=>if 0 ≤ i∧i ≤ cap then some i.toNat else none
 | some _=>none
def slcV (x:V) (lo hi mx:Option V) (sz:Nat):Option V:=
 match x with
 | .vec xs c=>match mx with
  | none=>match Zd0 hi xs.length xs.length with
   | some b=>match Zd0 lo 0 b with
    | some a=>if a=0∨∀ e ∈ xs,e.cells.length=sz then some (.vec ((xs.take b).drop a) (if c=.full∧b=xs.length then .full else .any)) else none
    | none=>none
   | none=>none
  | some _=>match Zd0 mx 0 xs.length with
   | some m=>match (if hi.isSome then Zd0 hi 0 m else none) with
    | some b=>match Zd0 lo 0 b with
     | some a=>if a=0∨∀ e ∈ xs,e.cells.length=sz then some (.vec ((xs.take b).drop a) (if b=m then .full else .any)) else none
     | none=>none
    | none=>none
   | none=>none
 | .ref id off len z=>match mx with
  | none=>if z=sz then match Zd0 hi len len with
   | some b=>match Zd0 lo 0 b with
    | some a=>if a < b then some (.ref id (off + a * sz) (b - a) sz) else some (.vec [] .any)
    | none=>none
   | none=>none else none
  | some _=>none
 | _=>none
def Zsi (x:V) (lo hi mx:Option V):Option V:=
 match x with
 | .str s=>match mx,Zd0 hi s.size s.size with
  | none,some b=>match Zd0 lo 0 b with
   | some a=>some (.str (s.extract a b))
   | none=>none
  | _,_=>none
 | _=>none
def Zij:KK→V→Bool
 | .i,_=>true
 | .s,_=>true
 | .b,_=>true
 | .r n,v=>(eqC (.r n) v v).isSome
def Zc5 (q:KK) (k:V):List (V × V)→Nat→Option (Option (Nat × V))
 | [],_=>if Zij q k then some none else none
 | (a,v) :: es,i=>match eqC q k a with
  | some true=>some (some (i,v))
  | some false=>Zc5 q k es (i + 1)
  | none=>none
def lkpV (h:H) (q:KK) (m k:V) (zero:V) (ok:Bool):Option V:=
 let give (v:V) (b:Bool):V:=if ok then .tuple [v,.bool b] else v
 match m with
 | .nilmap=>if Zij q k then some (give zero false) else none
 | .map id=>match h.mapAt id with
  | some (es,_)=>match Zc5 q k es 0 with
   | some (some (_,v))=>some (give v true)
   | some none=>some (give zero false)
   | none=>none
  | none=>none
 | _=>none
def Zit (x i:V) (sz:Nat):Option V:=
 match x,i with
 | .vec xs _,.int _ i=>if 0 ≤ i then match xs[i.toNat]? with
   | some e=>if e.cells.length=sz then some (.iptr e.cells) else none
   | none=>none
  else none
 | .ref id off len z,.int _ i=>if 0 ≤ i∧i < len∧z=sz then some (.ptr id (off + i.toNat * sz)) else none
 | _,_=>none
def addP (p:V) (off:Nat):Option V:=
 match p with
 | .iptr cs=>if off ≤ cs.length then some (.iptr (cs.drop off)) else none
 | .ptr id o=>some (.ptr id (o + off))
 | .lptr s z o=>some (.lptr s z (o + off))
 | _=>none
def takeV (cs:List V) (off n:Nat) (ag:Bool):Option V:=
 if ag then (if off + n ≤ cs.length then some (.agg ((cs.drop off).take n)) else none) else cs[off]?
def takeL (cs:List V) (off n:Nat) (ag:Bool):Option V:=
 if ag then (if off + n ≤ cs.length then (outs ((cs.drop off).take n)).map .agg else none) else cs[off]?
def Zep (m:Nat→Option (List V)) (h:H) (p:V) (n:Nat) (ag:Bool):Option V:=
 match p with
 | .iptr cs=>takeV cs 0 n ag
 | .ptr id o=>match h.get id with
  | some cs=>takeV cs o n ag
  | none=>none
 | .lptr s _ o=>match m s with
  | some cs=>takeL cs o n ag
  | none=>none
 | _=>none
def Zxs (x y c:V):Option V:=
 match x,y,c with
 | .int .u64 x,.int .u64 y,.int .u64 c =>
  if 0 ≤ x∧0 ≤ y∧0 ≤ c∧c ≤ 1 then some (.tuple [.int .u64 ((x + y + c) % 18446744073709551616),.int .u64 ((x + y + c) / 18446744073709551616)]) else none
 | _,_,_=>none
def Zfk:List V→Option (List UInt8)
 | []=>some []
 | .int .u8 n :: r=>match Zfk r with
  | some l=>some (UInt8.ofNat n.toNat :: l)
  | none=>none
 | _ :: _=>none
def rd (st:S):K→Option V
 | .mv x=>some (evA st.ρ x)
 | .pick c a b=>match asB (evA st.ρ c) with
  | some t=>some (if t then evA st.ρ a else evA st.ρ b)
  | none=>none
 | .load x n ag=>Zep st.m st.h (evA st.ρ x) n ag
 | .fad x off=>addP (evA st.ρ x) off
 | .idxS x i sz=>Zit (evA st.ρ x) (evA st.ρ i) sz
 | .idxP x i len sz=>match evA st.ρ i with
  | .int _ i=>if 0 ≤ i∧i < len then addP (evA st.ρ x) (i.toNat * sz) else none
  | _=>none
 | .idxStr x i=>match evA st.ρ x,evA st.ρ i with
  | .str s,.int _ i=>if 0 ≤ i then match s.data.toList[i.toNat]? with
    | some b=>some (.int .u8 b.toNat)
    | none=>none
   else none
  | _,_=>none
 | .idxA x i len sz ag=>match evA st.ρ x,evA st.ρ i with
  | .agg cs,.int _ i=>if 0 ≤ i∧i < len then takeV cs (i.toNat * sz) sz ag else none
  | _,_=>none
 | .fld x off n ag=>match evA st.ρ x with
  | .agg cs=>takeV cs off n ag
  | _=>none
 | .bin op ek x y=>binV op ek (evA st.ρ x) (evA st.ρ y)
 | .un op x=>unV op (evA st.ρ x)
 | .cvI k x=>match evA st.ρ x with
  | .int _ n=>some (.int k (k.wrap n))
  | _=>none
 | .cvS x=>match evA st.ρ x with
  | .str s=>some (.str s)
  | _=>none
 | .cvB x=>match evA st.ρ x with
  | .vec xs _=>match Zfk xs with
   | some bs=>some (.str ⟨bs.toArray⟩)
   | none=>none
  | _=>none
 | .mkI t x=>match (evA st.ρ x).out with
  | some v=>some (.iface t v)
  | none=>none
 | .asrt t x=>match evA st.ρ x with
  | .iface t' v=>if t'=t then some v else none
  | _=>none
 | .ext x i=>match evA st.ρ x with
  | .tuple vs=>vs[i]?
  | _=>none
 | .len q x=>match q,evA st.ρ x with
  | .i,.vec xs _=>some (.int .i64 xs.length)
  | .i,.ref _ _ n _=>some (.int .i64 n)
  | .s,.str s=>some (.int .i64 s.size)
  | .b,.nilmap=>some (.int .i64 0)
  | .b,.map id=>match st.h.mapAt id with
   | some (es,_)=>some (.int .i64 es.length)
   | none=>none
  | _,_=>none
 | .lenK n=>some (.int .i64 n)
 | .max xs=>match xs.map (evA st.ρ) with
  | v :: r=>maxV v r
  | []=>none
 | .min xs=>match xs.map (evA st.ρ) with
  | v :: r=>minV v r
  | []=>none
 | .slc x lo hi mx sz=>slcV (evA st.ρ x) (lo.map (evA st.ρ)) (hi.map (evA st.ρ)) (mx.map (evA st.ρ)) sz
 | .slcS x lo hi mx=>Zsi (evA st.ρ x) (lo.map (evA st.ρ)) (hi.map (evA st.ρ)) (mx.map (evA st.ρ))
 | .bld zero parts=>match fillV st.ρ zero parts with
  | some cs=>some (.agg cs)
  | none=>none
 | .mkF fn first captured=>match outs (first.map (evA st.ρ)),outs (captured.map (evA st.ρ)) with
  | some a,some b=>some (.func fn a b)
  | _,_=>none
 | .nilc x=>match evA st.ρ x with
  | .iptr cs=>some (.iptr cs)
  | .ptr id o=>some (.ptr id o)
  | .lptr s z o=>some (.lptr s z o)
  | _=>none
 | .bsl len sz ag zero parts=>match fillV st.ρ ((List.replicate len zero).flatten) parts with
  | some cs=>some (.vec (chunk ag sz len cs) .full)
  | none=>none
 | .lkp q m k zero ok=>lkpV st.h q (evA st.ρ m) (evA st.ρ k) zero ok
 | .add64 x y c=>Zxs (evA st.ρ x) (evA st.ρ y) (evA st.ρ c)
 | _=>none
def isRd:K→Bool
 | .store .. | .box .. | .allocz .. | .bslO .. | .mks .. | .app .. | .cpy .. | .mkM | .mup .. | .mdel .. | .rng .. | .nxt .. | .ent .. | .call .. | .callv .. | .pan .. | .nilS ..=>false
 | _=>true
abbrev Zas:=FuncId→List V→H→(Out→H→Prop)→Prop
def S.put (st:S) (d:Option Nat) (v:V):S:=
 match d with
 | some d=>{ st with ρ:=upd st.ρ d v }
 | none=>st
def S.withH (st:S) (h:H):S:={ st with h:=h }
def S.blank (h:H):S:=⟨fun _=>.undef,fun _=>none,0,[],h⟩
def stampV (s:Nat):V→V
 | .vec xs (.own _)=>.vec xs (.own s)
 | v=>v
def landV (s:Nat):V→V
 | .tuple vs=>.tuple (vs.map (stampV s))
 | v=>stampV s v
def mupV (h:H) (q:KK) (m k v:V):Option H:=
 match m with
 | .map id=>match h.mapAt id with
  | some (es,ver)=>match Zc5 q k es 0 with
   | some (some (i,_))=>some (h.set id (.map (es.set i (k,v)) ver))
   | some none=>some (h.set id (.map (es ++ [(k,v)]) (ver + 1)))
   | none=>none
  | none=>none
 | _=>none
def Zpd (h:H) (q:KK) (m k:V):Option H:=
 match m with
 | .nilmap=>some h
 | .map id=>match h.mapAt id with
  | some (es,ver)=>match Zc5 q k es 0 with
   | some (some (i,_))=>some (h.set id (.map (es.eraseIdx i) (ver + 1)))
   | some none=>some h
   | none=>none
  | none=>none
 | _=>none
def Zad (st:S) (p v:V) (n:Nat):Option S:=
 if v.cells.length=n∧0 < n then
  match p with
  | .lptr s z o=>match v with
   | .lptr ..=>none
   | .itr _=>none
   | .tuple _=>none
   | .undef=>none
   | v =>
    if o=0∧n=z then some { st with m:=upd st.m s (some v.cells) } else
    match st.m s with
    | some cs=>if o + n ≤ cs.length then some { st with m:=upd st.m s (some (over cs o v.cells)) } else none
    | none=>none
  | .ptr id o=>match v.outS,st.h.get id with
   | some v,some cs=>if o + n ≤ cs.length then some (st.withH (st.h.set id (.cells (over cs o v.cells)))) else none
   | _,_=>none
  | _=>none
 else none
def Zh2:V→Option Int
 | .int _ n=>some n
 | _=>none
def most:Nat:=4294967296
def appV (st:S) (s:Nat) (x y:V) (sz bytes:Nat) (ag obj:Bool):Option (V × S):=
 match lenV y,flat st.h y with
 | some k,some cs =>
  if cs.length=k * sz∧0 < sz∧bytes ≤ 4096 then
  match obj with
  | false=>match x with
   | .vec xs c =>
    if xs.length + k ≤ most∧(∀ e ∈ xs,e.cells.length=sz) then
     if k=0 then some (x,st) else
     match c with
     | .full=>some (.vec (xs ++ chunk ag sz k cs) (.own s),st)
     | .own s'=>if s' ∈ st.u then none else some (.vec (xs ++ chunk ag sz k cs) (.own s),{ st with u:=s' :: st.u })
     | .any=>none
    else none
   | _=>none
  | true=>match x with
   | .vec [] .full=>if k ≤ most∧0 < k then some (.ref st.h.next 0 k sz,st.withH (st.h.new (.cells cs))) else if k=0 then some (.vec [] .full,st) else none
   | .ref id 0 len z=>match st.h.get id with
    | some old=>if old.length=len * sz∧z=sz∧len + k ≤ most∧0 < k then
      some (.ref st.h.next 0 (len + k) sz,st.withH (st.h.move id (.cells (old ++ cs)))) else if k=0 then some (.ref id 0 len z,st) else none
    | none=>none
   | .vec [] (.own s')=>if s' ∈ st.u then none else if k ≤ most∧0 < k then some (.ref st.h.next 0 k sz,st.withH (st.h.new (.cells cs))) else none
   | _=>none
  else none
 | _,_=>none
def eff (call:Zas) (s:Nat) (st:S) (d:Option Nat):K→(Ex→S→Prop)→Prop
 | .store x v n,K=>match Zad st (evA st.ρ x) (evA st.ρ v) n with
  | some st'=>K .normal (st'.put d .undef)
  | none=>False
 | .box x obj,K =>
  match obj with
  | false=>match evA st.ρ x with
   | .lptr ..=>False
   | .itr _=>False
   | .tuple _=>False
   | .undef=>False
   | v=>K .normal { (st.put d (.lptr s v.cells.length 0)) with m:=upd st.m s (some v.cells) }
  | true=>match (evA st.ρ x).out with
   | some v=>K .normal ((st.withH (st.h.new (.cells v.cells))).put d (.ptr st.h.next 0))
   | none=>False
 | .allocz zero obj,K =>
  match obj with
  | false=>K .normal { (st.put d (.lptr s zero.length 0)) with m:=upd st.m s (some zero) }
  | true=>K .normal ((st.withH (st.h.new (.cells zero))).put d (.ptr st.h.next 0))
 | .bslO len sz zero parts,K=>match fillV st.ρ ((List.replicate len zero).flatten) parts with
  | some cs=>K .normal ((st.withH (st.h.new (.cells cs))).put d (.ref st.h.next 0 len sz))
  | none=>False
 | .mks l c sz bytes ag zero obj,K=>match Zh2 (evA st.ρ l),Zh2 (evA st.ρ c) with
  | some l,some c =>
   if 0 ≤ l∧l=c∧l ≤ most∧bytes ≤ 4096∧0 < sz then
    if obj then K .normal ((st.withH (st.h.new (.cells (List.replicate l.toNat zero).flatten))).put d (.ref st.h.next 0 l.toNat sz))
    else K .normal (st.put d (.vec (List.replicate l.toNat (mkEl ag zero)) .full))
   else False
  | _,_=>False
 | .app x y sz bytes ag obj,K=>match appV st s (evA st.ρ x) (evA st.ρ y) sz bytes ag obj with
  | some (v,st')=>K .normal (st'.put d v)
  | none=>False
 | .mkM,K=>K .normal ((st.withH (st.h.new (.map [] 0))).put d (.map st.h.next))
 | .mup q m k v,K=>match (evA st.ρ v).out,(evA st.ρ k).out with
  | some v,some k=>match mupV st.h q (evA st.ρ m) k v with
   | some h=>K .normal ((st.withH h).put d .undef)
   | none=>False
  | _,_=>False
 | .mdel q m k,K=>match Zpd st.h q (evA st.ρ m) (evA st.ρ k) with
  | some h=>K .normal ((st.withH h).put d (.tuple []))
  | none=>False
 | .rng m,K=>match evA st.ρ m with
  | .map id=>match st.h.mapAt id with
   | some (_,ver)=>K .normal ((st.withH (st.h.new (.iter id ver []))).put d (.itr st.h.next))
   | none=>False
  | _=>False
 | .nxt it,K=>match evA st.ρ it with
  | .itr i=>match st.h.objs i with
   | some (.iter id ver seen)=>match st.h.mapAt id with
    | some (es,ver')=>ver'=ver ∧
     ((∀ j,j < es.length→j ∈ seen)→K .normal (st.put d (.tuple [.bool false]))) ∧
     (∀ j k v,es[j]?=some (k,v)→j ∉ seen→K .normal ((st.withH (st.h.set i (.iter id ver (j :: seen)))).put d (.tuple [.bool true,k,v])))
    | none=>False
   | _=>False
  | _=>False
 | .ent it,K=>match evA st.ρ it with
  | .itr i=>match st.h.objs i with
   | some (.iter id ver (j :: _))=>match st.h.mapAt id with
    | some (es,ver')=>match es[j]? with
     | some (k,v)=>ver'=ver∧K .normal (st.put d (.tuple [k,v]))
     | none=>False
    | none=>False
   | _=>False
  | _=>False
 | .call f args,K=>match outs (args.map (evA st.ρ)) with
  | some vs=>call f vs st.h fun o h'=>match o with
   | .ret v=>K .normal ((st.withH h').put d (landV s v))
   | .pan v=>K (.pan v) (.blank h')
  | none=>False
 | .callv f args,K=>match evA st.ρ f with
  | .func (.func g) first captured=>match outs (args.map (evA st.ρ)) with
   | some vs=>call g (first ++ vs ++ captured) st.h fun o h'=>match o with
    | .ret v=>K .normal ((st.withH h').put d (landV s v))
    | .pan v=>K (.pan v) (.blank h')
   | none=>False
  | _=>False
 | .pan x,K=>match (evA st.ρ x).out with
  | some (.iface t v)=>K (.pan (.iface t v)) (.blank st.h)
  | _=>False
 | .nilS x neg,K=>match evA st.ρ x with
  | .vec xs _=>(xs=[]→K .normal (st.put d (.bool !neg)))∧K .normal (st.put d (.bool neg))
  | .ref ..=>K .normal (st.put d (.bool neg))
  | _=>False
 | _,_=>False
def Zir (want:Bool):V→Option Bool
 | .bool b=>some (b == want)
 | .tuple []=>some false
 | _=>none
def Zb9 (st:S) (o:IOp):Option Bool:=
 match o.guard with
 | none=>some true
 | some (g,want)=>Zir want (st.ρ g)
def op1 (call:Zas) (s:Nat) (o:IOp) (st:S) (K:Ex→S→Prop):Prop:=
 match o.k with
 | .bare size=>K .normal (st.put o.dst (.lptr s size 0))
 | k=>if isRd k then match rd st k with
   | some v=>K .normal (st.put o.dst v)
   | none=>False
  else eff call s st o.dst k K
def Ex.then (next:S→Prop) (K:Ex→S→Prop):Ex→S→Prop
 | .normal,st=>next st
 | e,st=>K e st
def S.tick (st:S):S:={ st with n:=st.n + 1 }
def ops (call:Zas):List IOp→S→(Ex→S→Prop)→Prop
 | [],st,K=>K .normal st
 | o :: os,st,K=>match Zb9 st o with
  | some true=>op1 call st.n o st (Ex.then (fun st'=>ops call os st'.tick K) K)
  | some false=>ops call os (st.put o.dst (.tuple [])).tick K
  | none=>False
def again (st:S) (past:List (Option K × V)):List Nat→Prop
 | []=>True
 | j :: js=>match past[j]? with
  | some (some k,v)=>rd st k=some v∧again st past js
  | _=>again st past js
def draws (call:Zas):List (IOp × Nat × List Nat)→List (Option K × V)→S→(Ex→S→Prop)→Prop
 | [],_,st,K=>K .normal st
 | (o,_,js) :: os,past,st,K=>match Zb9 st o with
  | some true=>op1 call st.n o st (Ex.then (fun st'=>again st' past js ∧
    draws call os (past ++ [(if isRd o.k then some o.k else none,match o.dst with | some d=>st'.ρ d | none=>.undef)]) st'.tick K) K)
  | some false=>draws call os (past ++ [(none,.undef)]) (st.put o.dst (.tuple [])).tick K
  | none=>False
def Ze0 (mp:List (Option Nat × Nat)) (s:Nat):Option Nat:=(mp.find? (·.1 == some s)).map (·.2)
def renV (u:List Nat) (mp:List (Option Nat × Nat)):V→V × List (Option Nat × Nat)
 | .vec xs (.own s)=>if s ∈ u then (.vec xs .any,mp) else match Ze0 mp s with
  | some t=>(.vec xs (.own t),mp)
  | none=>(.vec xs (.own mp.length),mp ++ [(some s,mp.length)])
 | .vec xs .full=>(.vec xs (.own mp.length),mp ++ [(none,mp.length)])
 | .lptr .. | .tuple ..=>(.undef,mp)
 | v=>(v,mp)
def Ze4 (u:List Nat) (mp:List (Option Nat × Nat)):List V→List V × List (Option Nat × Nat)
 | []=>([],mp)
 | v :: vs=>match renV u mp v with
  | (a,mp)=>match Ze4 u mp vs with
   | (as,mp)=>(a :: as,mp)
structure Kept where
 ρ:Nat→V
 m:Nat→Option (List V)
 mp:List (Option Nat × Nat)
def Zll (st:S) (q:Kept) (t:Nat):Kept:=
 match st.ρ t with
 | .lptr s z o=>match Ze0 q.mp s with
  | some s'=>⟨upd q.ρ t (.lptr s' z o),q.m,q.mp⟩
  | none=>match st.m s with
   | some cs=>match Ze4 st.u (q.mp ++ [(some s,q.mp.length)]) cs with
    | (cs,mp)=>⟨upd q.ρ t (.lptr q.mp.length z o),upd q.m q.mp.length (some cs),mp⟩
   | none=>q
 | v=>match renV st.u q.mp v with
  | (v,mp)=>⟨upd q.ρ t v,q.m,mp⟩
def clear (live:List Nat) (st:S):S:=
 match live.foldl (Zll st) ⟨fun _=>.undef,fun _=>none,[]⟩ with
 | ⟨ρ,m,mp⟩=>⟨ρ,m,mp.length,[],st.h⟩
def Zdw (live:List Nat) (body:S→(Ex→S→Prop)→Prop):Nat→S→(Ex→S→Prop)→Prop
 | 0,_,_=>False
 | n + 1,st,K=>body (clear live st) (Ex.then (fun st'=>Zdw live body n st' K) K)
def code (call:Zas) (fuel:Nat):C→S→(Ex→S→Prop)→Prop
 | .skip,st,K=>K .normal st
 | .reg os,st,K=>ops call os st K
 | .draw os,st,K=>draws call os [] st K
 | .draw2 os os2,st,K=>draws call os [] st K∧draws call os2 [] st K
 | .seq a b,st,K=>code call fuel a st (Ex.then (fun st'=>code call fuel b st' K) K)
 | .cond c a b,st,K=>match asB (evA st.ρ c) with
  | some t=>if t=true then code call fuel a st K else code call fuel b st K
  | none=>False
 | .block id c,st,K=>code call fuel c st fun e st'=>match e with
  | .brk i=>if i=id then K .normal st' else K (.brk i) st'
  | e=>K e st'
 | .loop live c,st,K=>Zdw live (code call fuel c) fuel st K
 | .brk i,st,K=>K (.brk i) st
 | .ret,st,K=>K .ret st
def outR (u:List Nat):V→Option V
 | .vec xs (.own s)=>some (.vec xs (if s ∈ u then .any else .own 0))
 | .vec xs .full=>some (.vec xs (.own 0))
 | v=>v.out
def outRs (u:List Nat):List V→Option (List V)
 | []=>some []
 | v :: vs=>match outR u v with
  | some (.vec xs (.own s))=>(outs vs).map (.vec xs (.own s) :: ·)
  | some a=>(outRs u vs).map (a :: ·)
  | none=>none
def resF (fr:Bool) (v:V):Option V:=if fr then some v else v.out
def resV (st:S):IRes→Option V
 | .tmp t fr=>resF fr (st.ρ t)
 | .cell t n ag fr=>match Zep st.m st.h (st.ρ t) n ag with
  | some v=>resF fr v
  | none=>none
def resVs (st:S):List IRes→Option (List V)
 | []=>some []
 | r :: rs=>match resV st r,resVs st rs with
  | some v,some vs=>some (v :: vs)
  | _,_=>none
def finish (st:S) (rs:List IRes):Option V:=
 match resVs st rs with
 | some [v]=>outR st.u v
 | some vs=>(outRs st.u vs).map .tuple
 | none=>none
def Zbv (l:List V):Nat→V:=fun t=>l.getD t .undef
structure Env where
 ir:FuncId→Option IFn
 ext:FuncId→Option (Zas→List V→H→(Out→H→Prop)→Prop)
def body (E:Env) (call:Zas) (fuel:Nat) (F:IFn) (args:List V) (h:H) (K:Out→H→Prop):Prop:=
 args.length ≤ F.ntmps∧code call fuel F.body ⟨Zbv args,fun _=>none,0,[],h⟩ fun e st=>match e with
  | .normal | .ret=>match finish st F.results with
   | some v=>K (.ret v) st.h
   | none=>False
  | .pan v=>K (.pan v) st.h
  | .brk _=>False
def call (E:Env):Nat→Zas
 | 0,_,_,_,_=>False
 | n + 1,f,args,h,K=>match E.ext f with
  | some x=>x (call E n) args h K
  | none=>match E.ir f with
   | some F=>body E (call E n) n F args h K
   | none=>False
end Go.Ab
namespace Go.Ab
structure Hints where
 obj:List Nat:=[]
 bare:List Nat:=[]
 loops:List (List Nat):=[]
 draws:List (Nat × List Nat × List (Nat × List Nat)):=[]
 glob:List (Nat × List V):=[]
 fresh:Bool:=false
def Znq:Value→Option V
 | .bool b=>some (.bool b)
 | .int k n=>some (.int k n)
 | .string s=>some (.str s)
 | .pointer none=>some .nilptr
 | .slice none 0 0=>some (.vec [] .full)
 | .map none=>some .nilmap
 | .nilFunc=>some .nilfunc
 | .nilIface=>some .niliface
 | .func f a b=>if a.size=0∧b.size=0 then some (.func f [] []) else none
 | _=>none
def Zk3:List Value→Option (List V)
 | []=>some []
 | v :: vs=>match Znq v,Zk3 vs with
  | some a,some as=>some (a :: as)
  | _,_=>none
def ofVal:Value→Option V
 | .agg cs=>(Zk3 cs.toList).map fun l=>.agg (l.map V.weak)
 | v=>Znq v
def Zav (hs:Hints):Operand→Option Arg
 | .tmp t=>some (.tmp t)
 | .const v=>(ofVal v).map .cst
 | .global g=>((hs.glob.find? (·.1 == g)).map (·.2)).map (.glob g)
 | .func f=>some (.cst (.func (.func f) [] []))
def Zbs (hs:Hints):List Operand→Option (List Arg)
 | []=>some []
 | x :: xs=>match Zav hs x,Zbs hs xs with
  | some a,some as=>some (a :: as)
  | _,_=>none
def Zlx (hs:Hints):Option Operand→Option (Option Arg)
 | none=>some none
 | some x=>(Zav hs x).map some
def Zbz (P:Program) (t:TypeId):Option Nat:=(P.info? t).map (·.size)
def Zgh (P:Program) (t:TypeId):Option Nat:=(P.info? t).map (·.bytes)
def aggT (P:Program) (t:TypeId):Option Bool:=
 match P.underlying t with
 | some (.struct _) | some (.array _ _)=>some true
 | some _=>some false
 | none=>none
def Zdv (P:Program) (t:TypeId):Option (List V):=do
 let i ← P.info? t
 let z ← i.zero
 Zk3 z.cells.toList
def Zt6 (P:Program) (t:TypeId):Option V:=do
 let i ← P.info? t
 let z ← i.zero
 ofVal z
def oneT (n:Nat) (ag:Bool):Bool:=ag || n == 1
def Zpp (P:Program) (t:TypeId):Option TypeId:=
 match P.underlying t with
 | some (.slice e)=>some e
 | _=>none
def Zc3 (P:Program) (t:TypeId):Option KK:=
 match P.underlying t with
 | some (.int _)=>some .i
 | some .string=>some .s
 | some .bool=>some .b
 | _=>none
def eqFields (P:Program):List Field→Option (List (Nat × KK))
 | []=>some []
 | f :: fs=>match Zc3 P f.type,eqFields P fs with
  | some q, some r => if f.name ≠ "_" then some ((f.offset, q) :: r) else none
  | _,_=>none
def offs (m:Nat):Nat→List (Nat × KK)
 | 0=>[]
 | n + 1=>(m,.i) :: offs (m + 1) n
def keyT (P:Program) (t:TypeId):Option KK:=
 match P.underlying t with
 | some (.struct fs)=>if P.stoodInHeld t=false∧eqFields P fs.toList=some (offs 0 fs.size) then some (.r fs.size) else none
 | _=>Zc3 P t
def eqKT (P:Program) (t:TypeId):Option EqK:=
 match P.underlying t with
 | some (.int _) | some .string=>some .plain
 | some .bool=>some .bool
 | some (.struct fs)=>if P.stoodInHeld t || P.eqGuardType P.depth t then none else (eqFields P fs.toList).map .agg
 | some (.map _ _)=>some .nilM
 | some (.interface _)=>some .nilI
 | _=>none
def Zg8 (P:Program) (fs:List Field):Option (List (Nat × Nat)):=
 match fs with
 | []=>some []
 | f :: r=>match Zbz P f.type,Zg8 P r with
  | some n,some l=>some ((f.offset,n) :: l)
  | _,_=>none
def Zei (hs:Hints) (place:Nat→Option (Nat × Nat)):List (Nat × Operand)→Option (List (Nat × Nat × Arg))
 | []=>some []
 | (i,x) :: r=>match place i,Zav hs x,Zei hs place r with
  | some (off,n),some a,some l=>some ((off,n,a) :: l)
  | _,_,_=>none
def Ztb (hs:Hints) (d:Option Nat):Bool:=match d with | some t=>hs.obj.contains t | none=>false
def weakZ (hs:Hints) (d:Option Nat) (z:List V):List V:=if Ztb hs d then z else z.map V.weak
def Zkp (P:Program) (hs:Hints) (d:Option Nat) (c:Call):Option K:=do
 let args ← Zbs hs c.args.toList
 match c.callee with
 | .value (.func f)=>do
  let fn ← P.funcs[f]?
  if fn.body.isSome ∧ fn.name ≠ "runtime.NumGoroutine" then some (.call f args)
  else if fn.body.isNone ∧ fn.name = "math/bits.Add64" ∧ fn.origin = "" then
   match args with
   | [x,y,c]=>some (.add64 x y c)
   | _=>none
  else none
 | .value x=>do some (.callv (← Zav hs x) args)
 | .invoke _ _=>none
 | .builtin b =>
  match b,args with
  | .len,[x]=>do
   let t0 ← c.argTypes[0]?
   match P.underlying t0 with
   | some (.array n _)=>some (.lenK n)
   | some (.slice _)=>some (.len .i x)
   | some .string=>some (.len .s x)
   | some (.map _ _)=>some (.len .b x)
   | _=>none
  | .max,xs=>some (.max xs)
  | .min,xs=>some (.min xs)
  | .append,[x,y]=>do
   let t0 ← c.argTypes[0]?
   let t1 ← c.argTypes[1]?
   let e ← Zpp P t0
   let n ← Zbz P e
   let ag ← aggT P e
   let z ← Zdv P e
   let e' ← Zpp P t1
   if oneT n ag=true∧z.length=n∧e'=e then some (.app x y n (← Zgh P e) ag (Ztb hs d)) else none
  | .delete,[m,k]=>do
   let t0 ← c.argTypes[0]?
   match P.underlying t0 with
   | some (.map key _)=>do some (.mdel (← Zc3 P key) m k)
   | _=>none
  | _,_=>none
def Zv6:Operand→Bool
 | .const (.slice none 0 0)=>true
 | _=>false
def Zml (P:Program) (t:TypeId):Bool:=
 match P.underlying t with
 | some (.slice _)=>true
 | _=>false
def Zmm:Operand→Bool
 | .const _=>true
 | _=>false
def trK (P:Program) (hs:Hints) (o:Oper):Option K:=
 match o.op with
 | .move x | .assign x=>do some (.mv (← Zav hs x))
 | .pick c a b=>do some (.pick (← Zav hs c) (← Zav hs a) (← Zav hs b))
 | .alloc t=>do
  let z ← Zdv P t
  if Ztb hs o.dst then some (.allocz z true)
  else if (match o.dst with | some d=>hs.bare.contains d | none=>false) then some (.bare z.length)
  else some (.allocz z false)
 | .box _ x=>do some (.box (← Zav hs x) (Ztb hs o.dst))
 | .build t parts=>do
  let z ← Zdv P t
  match P.underlying t with
  | some (.struct fs)=>do
   let pl ← Zg8 P fs.toList
   some (.bld (weakZ hs o.dst z) (← Zei hs (pl[·]?) parts.toList))
  | some (.array _ e)=>do
   let n ← Zbz P e
   some (.bld (weakZ hs o.dst z) (← Zei hs (fun i=>some (i * n,n)) parts.toList))
  | _=>none
 | .buildSlice t len parts=>do
  let e ← Zpp P t
  let n ← Zbz P e
  let z ← Zdv P e
  let ps ← Zei hs (fun i=>some (i * n,n)) parts.toList
  let ag ← aggT P e
  if len * n ≤ 16777216∧0 < n∧z.length=n∧oneT n ag=true then
   if Ztb hs o.dst then some (.bslO len n z ps) else some (.bsl len n ag (z.map V.weak) ps)
  else none
 | .load t x=>do some (.load (← Zav hs x) (← Zbz P t) (← aggT P t))
 | .store t x v=>do
  let _ ← aggT P t
  some (.store (← Zav hs x) (← Zav hs v) (← Zbz P t))
 | .nilCheck x=>do some (.nilc (← Zav hs x))
 | .binOp op t x y _ =>
  if Zml P t=true then
   (if Zv6 y=true then
    (match op with
    | .eql=>(Zav hs x).map (.nilS · false)
    | .neq=>(Zav hs x).map (.nilS · true)
    | _=>none)
   else none)
  else do
  let ek ← eqKT P t
  if ek=.nilI∧¬ (Zmm x || Zmm y) then none
  else some (.bin op ek (← Zav hs x) (← Zav hs y))
 | .unOp op _ x=>do some (.un op (← Zav hs x))
 | .convert s d x =>
  match P.underlying s,P.underlying d with
  | some (.int _),some (.int k)=>do some (.cvI k (← Zav hs x))
  | some .string,some .string=>do some (.cvS (← Zav hs x))
  | some (.slice e),some .string=>match P.underlying e with
   | some (.int .u8)=>do some (.cvB (← Zav hs x))
   | _=>none
  | _,_=>none
 | .makeInterface t x =>
  match P.underlying t with
  | some (.interface _)=>none
  | some _=>do some (.mkI t (← Zav hs x))
  | none=>none
 | .makeFunc fn first captured=>do some (.mkF fn (← Zbs hs first.toList) (← Zbs hs captured.toList))
 | .makeMap _ none=>some .mkM
 | .makeSlice t l c=>do
  let e ← Zpp P t
  let n ← Zbz P e
  let z ← Zdv P e
  let ag ← aggT P e
  if 0 < n∧z.length=n∧oneT n ag=true then some (.mks (← Zav hs l) (← Zav hs c) n (← Zgh P e) ag (weakZ hs o.dst z) (Ztb hs o.dst)) else none
 | .slice t x lo hi mx =>
  match P.underlying t with
  | some (.slice e)=>do some (.slc (← Zav hs x) (← Zlx hs lo) (← Zlx hs hi) (← Zlx hs mx) (← Zbz P e))
  | some .string=>do some (.slcS (← Zav hs x) (← Zlx hs lo) (← Zlx hs hi) (← Zlx hs mx))
  | _=>none
 | .fieldAddr s x f =>
  match P.underlying s with
  | some (.struct fs)=>do
   let fd ← fs[f]?
   let n ← Zbz P fd.type
   if n=0 then none else some (.fad (← Zav hs x) fd.offset)
  | _=>none
 | .field t x f =>
  match P.underlying t with
  | some (.struct fs)=>do
   let fd ← fs[f]?
   some (.fld (← Zav hs x) fd.offset (← Zbz P fd.type) (← aggT P fd.type))
  | _=>none
 | .indexAddr t x i =>
  match P.underlying t with
  | some (.slice e)=>do
   let n ← Zbz P e
   if 0 < n then some (.idxS (← Zav hs x) (← Zav hs i) n) else none
  | some (.array len e)=>do some (.idxP (← Zav hs x) (← Zav hs i) len (← Zbz P e))
  | _=>none
 | .index t x i =>
  match P.underlying t with
  | some .string=>do some (.idxStr (← Zav hs x) (← Zav hs i))
  | some (.array len e)=>do some (.idxA (← Zav hs x) (← Zav hs i) len (← Zbz P e) (← aggT P e))
  | _=>none
 | .lookup t x k ok =>
  match P.underlying t with
  | some (.map key e)=>do
   some (.lkp (← keyT P key) (← Zav hs x) (← Zav hs k) (← Zt6 P e) ok)
  | _=>none
 | .mapUpdate t m k v | .insert t m k v =>
  match P.underlying t with
  | some (.map key _)=>do some (.mup (← keyT P key) (← Zav hs m) (← Zav hs k) (← Zav hs v))
  | _=>none
 | .range t x =>
  match P.underlying t with
  | some (.map _ _)=>do some (.rng (← Zav hs x))
  | _=>none
 | .next it false=>do some (.nxt (← Zav hs it))
 | .entry it=>do some (.ent (← Zav hs it))
 | .typeAssert x _ t false =>
  match P.underlying t with
  | some (.interface _)=>none
  | some _=>do some (.asrt t (← Zav hs x))
  | none=>none
 | .extract x i=>do some (.ext (← Zav hs x) i)
 | .call c=>Zkp P hs o.dst c
 | .panic x=>do some (.pan (← Zav hs x))
 | _=>none
def trOp (P:Program) (hs:Hints) (all:Array Oper) (o:Oper):Option IOp:=do
 let k ← trK P hs o
 match o.guard with
 | none=>some ⟨o.dst,none,k⟩
 | some (j,want)=>do
  let oj ← all[j]?
  let g ← oj.dst
  some ⟨o.dst,some (g,want),k⟩
def Zue (P:Program) (hs:Hints) (all:Array Oper):List Oper→Option (List IOp)
 | []=>some []
 | o :: os=>match trOp P hs all o,Zue P hs all os with
  | some a,some as=>some (a :: as)
  | _,_=>none
abbrev InN (n:Nat × Nat) (d:Nat):Prop:=n.1 ≤ d∧d < n.2
def Zhm (n:Nat × Nat) (all:Array Oper):Bool:=all.all fun o=>match o.dst with | some d=>decide (InN n d) | none=>true
def Zru:List Oper→List Nat→List Nat
 | [],acc=>acc
 | o :: os,acc=>Zru os (acc ++ [o.after.toList.foldl (fun l e=>if Region.binds .any e then (1 <<< e.on) ||| acc.getD e.on 0 ||| l else l) 0])
def ancs (all:Array Oper):List Nat:=Zru all.toList []
def Zfs:K→Bool
 | .load .. | .len .. | .lkp ..=>true
 | _=>false
def Zd2 (P:Program) (hs:Hints) (all:Array Oper):List (Nat × List Nat)→Option (List (IOp × Nat × List Nat))
 | []=>some []
 | (i,js) :: r=>match all[i]?,Zd2 P hs all r with
  | some o,some l=>match trOp P hs all o with
   | some a=>some ((a,i,js) :: l)
   | none=>none
  | _,_=>none
def Arg.tmps:Arg→List Nat
 | .tmp t=>[t]
 | _=>[]
def Zma:Option Arg→List Nat
 | some x=>x.tmps
 | none=>[]
def K.tmps:K→List Nat
 | .mv x | .load x _ _ | .fad x _ | .fld x _ _ _ | .un _ x | .cvI _ x | .cvS x | .cvB x | .mkI _ x | .asrt _ x | .ext x _ | .len _ x | .nilc x | .nilS x _ | .box x _ | .rng x | .nxt x | .ent x | .pan x=>x.tmps
 | .pick c a b | .add64 c a b=>c.tmps ++ a.tmps ++ b.tmps
 | .idxS x i _ | .idxP x i _ _ | .idxStr x i | .idxA x i _ _ _=>x.tmps ++ i.tmps
 | .bin _ _ x y | .lkp _ x y _ _ | .store x y _ | .mks x y _ _ _ _ _ | .app x y _ _ _ _ | .cpy x y _ | .mdel _ x y=>x.tmps ++ y.tmps
 | .mup _ m k v=>m.tmps ++ k.tmps ++ v.tmps
 | .max xs | .min xs=>xs.flatMap Arg.tmps
 | .slc x lo hi mx _ | .slcS x lo hi mx=>x.tmps ++ Zma lo ++ Zma hi ++ Zma mx
 | .bld _ ps | .bsl _ _ _ _ ps | .bslO _ _ _ ps=>ps.flatMap fun p=>p.2.2.tmps
 | .mkF _ a b=>a.flatMap Arg.tmps ++ b.flatMap Arg.tmps
 | .call _ xs=>xs.flatMap Arg.tmps
 | .callv f xs=>f.tmps ++ xs.flatMap Arg.tmps
 | .lenK _ | .bare _ | .allocz _ _ | .mkM=>[]
def IOp.reads (o:IOp):List Nat:=o.k.tmps ++ (match o.guard with | some (g,_)=>[g] | none=>[])
abbrev Ord:=List (IOp × Nat × List Nat)
def Zmz (an:List Nat) (l:Ord):Bool:=
 l.zipIdx.all (fun x=>isRd x.1.1.k || ((l.drop (x.2 + 1)).all fun y=>(an.getD y.2.1 0).testBit x.1.2.1))
def Zho (an:List Nat) (p0 e2:Nat) (l:Ord):Bool:=
 l.zipIdx.all (fun x=>isRd x.1.1.k || ((l.drop (x.2 + 1)).all fun y=>(an.getD y.2.1 0).testBit x.1.2.1 || (x.2 == p0 && (y.2.1 == e2 || (an.getD y.2.1 0).testBit e2))))
def Zmy (an:List Nat) (l:Ord):Bool:=
 l.zipIdx.all (fun x=>isRd x.1.1.k ||
  ((l.take x.2).zipIdx.all fun y=>!Zfs y.1.1.k || (an.getD x.1.2.1 0).testBit y.1.2.1 ||
   (x.1.2.2.contains y.2 && ((l.take (x.2 + 1)).drop y.2).all fun z=>match z.1.dst with | none=>true | some d=>!y.1.1.k.tmps.contains d)))
def Zcl (all:Array Oper) (an:List Nat) (l:Ord):Bool:=
 (ancs all == an) &&
 decide ((l.map (·.2.1)).Nodup) && decide (l.length=all.size) && (List.range all.size).all (fun i=>(l.map (·.2.1)).contains i) && l.all (fun x=>decide (x.2.1 < all.size)) &&
 decide ((l.filterMap (·.1.dst)).Nodup) &&
 all.toList.zipIdx.all (fun x=>x.1.after.toList.all fun e=>!Region.binds .any e || decide (e.on < x.2)) &&
 l.zipIdx.all (fun x=>(List.range all.size).all fun a=>!(an.getD x.1.2.1 0).testBit a || ((l.take x.2).map (·.2.1)).contains a) &&
 l.all (fun x=>match x.1.dst with | none=>true | some d=>l.all fun y=>!y.1.reads.contains d || x.2.1 == y.2.1 || (an.getD y.2.1 0).testBit x.2.1 || (an.getD x.2.1 0).testBit y.2.1)
def Zww (all:Array Oper) (an:List Nat) (l:Ord):Bool:=
 Zcl all an l &&
 Zmz an l &&
 Zmy an l
def Zpr (all:Array Oper) (an:List Nat) (p0 e1 e2:Nat) (l l2:Ord):Bool:=
 Zcl all an l && Zmy an l && Zho an p0 e2 l && Zcl all an l2 && Zmy an l2 && Zho an p0 e1 l2 &&
 decide ((l.take p0).map (·.2)=(l2.take p0).map (·.2)) && (l.take p0).all (fun x=>isRd x.1.k) &&
 decide ((l[p0]?).map (·.2.1)=some e1) && decide ((l2[p0]?).map (·.2.1)=some e2) && (l[p0]?).all (fun x=>!isRd x.1.k) && (l2[p0]?).all (fun x=>!isRd x.1.k)
def trC (P:Program) (hs:Hints) (n:Nat × Nat):Code→List (List Nat)→Option (C × List (List Nat))
 | .skip,ls=>some (.skip,ls)
 | .region id all false,ls=>do
  let l ← Zue P hs all all.toList
  if Zhm n all then some (.reg l,ls) else none
 | .region id all true,ls=>do
  let (_,an,ord) ← hs.draws.find? (·.1 == id)
  let l ← Zd2 P hs all ord
  if Zhm n all && Zww all an l then some (.draw l,ls) else do
   let (_,e,ord2) ← (hs.draws.filter (·.1 == id))[1]?
   let l2 ← Zd2 P hs all ord2
   if Zhm n all && Zpr all an (e.getD 0 0) (e.getD 1 0) (e.getD 2 0) l l2 then some (.draw2 l l2,ls) else none
 | .seq a b,ls=>do
  let (a,ls) ← trC P hs n a ls
  let (b,ls) ← trC P hs n b ls
  some (.seq a b,ls)
 | .cond x a b,ls=>do
  let x ← Zav hs x
  let (a,ls) ← trC P hs n a ls
  let (b,ls) ← trC P hs n b ls
  some (.cond x a b,ls)
 | .block id c,ls=>do
  let (c,ls) ← trC P hs n c ls
  some (.block id c,ls)
 | .loop c,ls=>match ls with
  | live :: ls=>do
   let (c,ls) ← trC P hs n c ls
   if live.all (· < n.2) then some (.loop live c,ls) else none
  | []=>none
 | .exit id,ls=>some (.brk id,ls)
 | .ret,ls=>some (.ret,ls)
 | _,_=>none
def Zlw (P:Program) (fr:Bool):List ResultVar→Option (List IRes)
 | []=>some []
 | .tmp t :: r=>(Zlw P fr r).map (.tmp t fr :: ·)
 | .cell a t :: r=>match Zbz P t,aggT P t,Zlw P fr r with
  | some n,some ag,some l=>some (.cell a n ag fr :: l)
  | _,_,_=>none
def trF (P:Program) (hs:Hints) (f:Func):Option IFn:=do
 let c ← f.body
 let (c,_) ← trC P hs (0,f.ntmps) c hs.loops
 some ⟨f.ntmps,← Zlw P hs.fresh f.results.toList,c⟩
end Go.Ab
namespace Go.Ab
structure Ctx where
 ω:Nat→Nat
 lim:Nat→Nat
 nx:Nat
def capOK (w:World) (b n:Nat):Prop:=∃ c e,w.heap[b]?=some (.cells c e (0,0))∧n ≤ c.size
def Cap.shared:Cap→Bool
 | .own _=>false
 | _=>true
inductive VR (k:Ctx) (w:World):V→Value→Prop
 | bool (b:Bool):VR k w (.bool b) (.bool b)
 | int (i:IntKind) (n:Int):VR k w (.int i n) (.int i n)
 | str (s:ByteArray):VR k w (.str s) (.string s)
 | vecNil (c:Cap) (hc:c.shared=true):VR k w (.vec [] c) (.slice none 0 0)
 | vec (xs:List V) (c:Cap) (a:Addr) (len cap sz:Nat) (val:Nat→Nat→Value) (hc:c.shared=true) (hlen:len=xs.length) (hcap:len ≤ cap)
   (hfull:c=.full→cap=len)
   (hsz:∀ (i:Nat) (e:V),xs[i]?=some e→e.cells.length=sz)
   (hcell:∀ (i:Nat) (e:V) (j:Nat) (v:V),xs[i]?=some e→e.cells[j]?=some v→w.cell? (a.add (i * sz + j))=some (val i j)∧(a.add (i * sz + j)).off < k.lim a.block∧(val i j).oneCell'=true)
   (hval:∀ (i:Nat) (e:V) (j:Nat) (v:V),xs[i]?=some e→e.cells[j]?=some v→VR k w v (val i j)) :
   VR k w (.vec xs c) (.slice (some a) len cap)
 | ref (id off len sz cap:Nat) (b:Nat) (hb:b=k.ω id) (hid:id < k.nx) (hl:len ≤ cap) (hc:capOK w (k.ω id) (off + cap * sz)) :
   VR k w (.ref id off len sz) (.slice (some ⟨b,off,none⟩) len cap)
 | iptr (cells:List V) (a:Addr) (val:Nat→Value) (ha:a.spot=none)
   (hcell:∀ (j:Nat) (v:V),cells[j]?=some v→w.cell? (a.add j)=some (val j)∧(a.add j).off < k.lim a.block∧(val j).oneCell'=true)
   (hval:∀ (j:Nat) (v:V),cells[j]?=some v→VR k w v (val j)):VR k w (.iptr cells) (.pointer (some a))
 | ptr (id off:Nat) (b:Nat) (hb:b=k.ω id) (hid:id < k.nx):VR k w (.ptr id off) (.pointer (some ⟨b,off,none⟩))
 | nilptr:VR k w .nilptr (.pointer none)
 | map (id:Nat) (b:Nat) (hb:b=k.ω id) (hid:id < k.nx):VR k w (.map id) (.map (some b))
 | nilmap:VR k w .nilmap (.map none)
 | func (fn:Fn) (p q:List V) (p' q':Array Value) (vp vq:Nat→Value) (hp:p'.size=p.length) (hq:q'.size=q.length)
   (hpx:∀ (j:Nat) (v:V),p[j]?=some v→p'[j]?=some (vp j)) (hqx:∀ (j:Nat) (v:V),q[j]?=some v→q'[j]?=some (vq j))
   (hpv:∀ (j:Nat) (v:V),p[j]?=some v→VR k w v (vp j)) (hqv:∀ (j:Nat) (v:V),q[j]?=some v→VR k w v (vq j)):VR k w (.func fn p q) (.func fn p' q')
 | nilfunc:VR k w .nilfunc .nilFunc
 | iface (t:TypeId) (v:V) (x:Value) (h:VR k w v x):VR k w (.iface t v) (.iface t x)
 | niliface:VR k w .niliface .nilIface
 | agg (cs:List V) (xs:Array Value) (val:Nat→Value) (hs:xs.size=cs.length) (hx:∀ (j:Nat) (v:V),cs[j]?=some v→xs[j]?=some (val j)∧(val j).oneCell'=true)
   (hv:∀ (j:Nat) (v:V),cs[j]?=some v→VR k w v (val j)):VR k w (.agg cs) (.agg xs)
structure Keeps (k k':Ctx) (w w':World):Prop where
 nx:k.nx ≤ k'.nx
 om:∀ (id:Nat),id < k.nx→k'.ω id=k.ω id
 lim:∀ (b:Nat),b < w.heap.size→k.lim b ≤ k'.lim b
 size:w.heap.size ≤ w'.heap.size
 cell:∀ (a:Addr) (v:Value),w.cell? a=some v→a.off < k.lim a.block→w'.cell? a=some v
 rows:∀ (b:Nat) (c:Array Value) (e:TypeId),w.heap[b]?=some (.cells c e (0,0))→∃ c',w'.heap[b]?=some (.cells c' e (0,0))∧c'.size=c.size
theorem Keeps.refl (k:Ctx) (w:World):Keeps k k w w:=
 ⟨Nat.le_refl _,fun _ _=>rfl,fun _ _=>Nat.le_refl _,Nat.le_refl _,fun _ _ h _=>h,fun b c e h=>⟨c,h,rfl⟩⟩
theorem Keeps.trans {k k' k'':Ctx} {w w' w'':World} (a:Keeps k k' w w') (b:Keeps k' k'' w' w''):Keeps k k'' w w'' where
 nx:=Nat.le_trans a.nx b.nx
 om id h:=(b.om id (Nat.lt_of_lt_of_le h a.nx)).trans (a.om id h)
 lim x h:=Nat.le_trans (a.lim x h) (b.lim x (Nat.lt_of_lt_of_le h a.size))
 size:=Nat.le_trans a.size b.size
 cell x v h hl:=b.cell x v (a.cell x v h hl) (Nat.lt_of_lt_of_le hl (a.lim _ (World.block_lt_of_cell? _ _ h)))
 rows x c e h:=by
  obtain ⟨c',h',hs⟩:=a.rows x c e h
  obtain ⟨c'',h'',hs'⟩:=b.rows x c' e h'
  exact ⟨c'',h'',hs'.trans hs⟩
theorem capOK.mono {k k':Ctx} {w w':World} {b n:Nat} (h:capOK w b n) (hk:Keeps k k' w w'):capOK w' b n:=by
 obtain ⟨c,e,hb,hn⟩:=h
 obtain ⟨c',hb',hs⟩:=hk.rows b c e hb
 exact ⟨c',e,hb',by omega⟩
theorem Zbi (a:Addr) (n:Nat):(a.add n).block=a.block:=by unfold Addr.add; split <;> rfl
theorem Zm6 (a:Addr) (n:Nat) (h:a.spot=none):(a.add n).spot=none:=by unfold Addr.add; split <;> simp_all
theorem Zdt (a:Addr) (m n:Nat):(a.add m).add n=a.add (m + n):=by
 unfold Addr.add
 by_cases hm:m=0 <;> by_cases hn:n=0 <;> simp [hm,hn,Nat.add_assoc]
theorem Zb7 (b off n:Nat):(⟨b,off,none⟩:Addr).add n=⟨b,off + n,none⟩:=by
 unfold Addr.add; split <;> simp_all
theorem Zxp (a:Addr) (n:Nat) (h:a.spot=none):a.add n=⟨a.block,a.off + n,none⟩:=by
 cases a; simp only at h; subst h; exact Zb7 _ _ _
theorem VR.mono {k k':Ctx} {w w':World} {v:V} {x:Value} (h:VR k w v x) (hk:Keeps k k' w w'):VR k' w' v x:=by
 induction h with
 | bool b=>exact .bool b
 | int i n=>exact .int i n
 | str s=>exact .str s
 | vecNil c hc=>exact .vecNil c hc
 | vec xs c a len cap sz val hc hlen hcap hfull hsz hcell hval ih =>
  refine .vec xs c a len cap sz val hc hlen hcap hfull hsz (fun i e j v hi hj=>?_) (fun i e j v hi hj=>ih i e j v hi hj)
  obtain ⟨h1,h2,h3⟩:=hcell i e j v hi hj
  have hb:=World.block_lt_of_cell? _ _ h1
  rw [Zbi] at hb
  exact ⟨hk.cell _ _ h1 (by rwa [Zbi]),Nat.lt_of_lt_of_le h2 (hk.lim _ hb),h3⟩
 | ref id off len sz cap b hb hid hl hc =>
  exact .ref id off len sz cap b (by rw [hk.om id hid]; exact hb) (Nat.lt_of_lt_of_le hid hk.nx) hl (by rw [hk.om id hid]; exact hc.mono hk)
 | iptr cells a val ha hcell hval ih =>
  refine .iptr cells a val ha (fun j v hj=>?_) (fun j v hj=>ih j v hj)
  obtain ⟨h1,h2,h3⟩:=hcell j v hj
  have hb:=World.block_lt_of_cell? _ _ h1
  rw [Zbi] at hb
  exact ⟨hk.cell _ _ h1 (by rwa [Zbi]),Nat.lt_of_lt_of_le h2 (hk.lim _ hb),h3⟩
 | ptr id off b hb hid=>exact .ptr id off b (by rw [hk.om id hid]; exact hb) (Nat.lt_of_lt_of_le hid hk.nx)
 | nilptr=>exact .nilptr
 | map id b hb hid=>exact .map id b (by rw [hk.om id hid]; exact hb) (Nat.lt_of_lt_of_le hid hk.nx)
 | nilmap=>exact .nilmap
 | func fn p q p' q' vp vq hp hq hpx hqx hpv hqv ihp ihq=>exact .func fn p q p' q' vp vq hp hq hpx hqx ihp ihq
 | nilfunc=>exact .nilfunc
 | iface t v x h ih=>exact .iface t v x ih
 | niliface=>exact .niliface
 | agg cs xs val hs hx hv ih=>exact .agg cs xs val hs hx ih
def CRs (k:Ctx) (w:World) (vs:List V) (xs:List Value):Prop:=
 xs.length=vs.length∧∀ (j:Nat) (v:V),vs[j]?=some v→∃ x,xs[j]?=some x∧VR k w v x∧x.oneCell'=true
theorem CRs.mono {k k':Ctx} {w w':World} {vs:List V} {xs:List Value} (h:CRs k w vs xs) (hk:Keeps k k' w w'):CRs k' w' vs xs:=
 ⟨h.1,fun j v hj=>let ⟨x,a,b,c⟩:=h.2 j v hj; ⟨x,a,b.mono hk,c⟩⟩
theorem VR.one {k:Ctx} {w:World} {v:V} {x:Value} (h:VR k w v x) (hv:∀ cs,v ≠ .agg cs):x.oneCell'=true:=by
 cases h <;> first | rfl | exact absurd rfl (hv _)
theorem V.cells_of_not {v:V} (hv:∀ cs,v ≠ .agg cs):v.cells=[v]:=by
 cases v <;> first | rfl | exact absurd rfl (hv _)
theorem Value.cells_of_one {x:Value} (h:x.oneCell'=true):x.cells=#[x]:=by
 cases x <;> first | rfl | simp [Value.oneCell'] at h
theorem VR.cells {k:Ctx} {w:World} {v:V} {x:Value} (h:VR k w v x):CRs k w v.cells x.cells.toList:=by
 by_cases hv:∀ cs,v ≠ .agg cs
 ·rw [V.cells_of_not hv,Value.cells_of_one (h.one hv)]
  refine ⟨rfl,fun j u hj=>?_⟩
  cases j with
  | zero=>simp at hj; subst hj; exact ⟨x,rfl,h,h.one hv⟩
  | succ j=>simp at hj
 ·cases v with
  | agg cs =>
   cases h with
   | agg _ xs val hs hx hv =>
    refine ⟨by simpa [Value.cells,V.cells] using hs,fun j u hj=>?_⟩
    obtain ⟨h1,h2⟩:=hx j u hj
    exact ⟨val j,by simpa [Value.cells] using h1,hv j u hj,h2⟩
  | _=>exact absurd (fun cs=>by simp) hv
theorem VR.of_cells {k:Ctx} {w:World} {cs:List V} {xs:Array Value} (h:CRs k w cs xs.toList):VR k w (.agg cs) (.agg xs):=by
 refine .agg cs xs (fun j=>xs.getD j undef) (by simpa using h.1) (fun j v hj=>?_) (fun j v hj=>?_)
 all_goals
  obtain ⟨x,h1,h2,h3⟩:=h.2 j v hj
  have h1':xs[j]?=some x:=by simpa using h1
  have hg:xs.getD j undef=x:=by simp [Array.getD_eq_getD_getElem?,h1']
  rw [hg]
 ·exact ⟨h1',h3⟩
 ·exact h2
end Go.Ab
namespace Go.Ab
def OwnOK (k:Ctx) (w:World) (β:Nat→Nat) (A:Nat→Prop) (s:Nat) (xs:List V) (x:Value):Prop:=
 A s∧∃ (a:Addr) (cap sz:Nat),x=.slice (some a) xs.length cap∧a.block=β s∧a.spot=none∧0 < sz∧xs ≠ [] ∧
  (∀ e ∈ xs,e.cells.length=sz)∧a.off + xs.length * sz=k.lim (β s)∧capOK w (β s) (a.off + cap * sz)
def SR1 (k:Ctx) (w:World) (β:Nat→Nat) (A:Nat→Prop) (u:List Nat):V→Value→Prop
 | .vec xs (.own s),x=>VR k w (.vec xs .any) x∧(s ∉ u→OwnOK k w β A s xs x∨VR k w (.vec xs .full) x)
 | .lptr s z o,x=>x=.pointer (some ⟨β s,o,none⟩)∧A s∧k.lim (β s)=0∧∃ c e,w.heap[β s]?=some (.cells c e (0,0))∧c.size=z
 | .itr id,x=>x=.pointer (some ⟨k.ω id,0,none⟩)∧id < k.nx
 | .undef,_=>True
 | v,x=>VR k w v x
def SR (k:Ctx) (w:World) (β:Nat→Nat) (A:Nat→Prop) (u:List Nat):V→Value→Prop
 | .tuple vs,x=>∃ xs:Array Value,x=.tuple xs∧xs.size=vs.length∧∀ (j:Nat) (v:V),vs[j]?=some v→∃ y,xs[j]?=some y∧SR1 k w β A u v y
 | v,x=>SR1 k w β A u v x
theorem SR.eq1 {k:Ctx} {w:World} {β:Nat→Nat} {A:Nat→Prop} {u:List Nat} {v:V} {x:Value} (hv:∀ vs,v ≠ .tuple vs):SR k w β A u v x=SR1 k w β A u v x:=by
 cases v <;> first | rfl | exact absurd rfl (hv _)
def V.plain:V→Bool
 | .vec _ (.own _) | .lptr .. | .itr _ | .undef | .tuple _=>false
 | _=>true
theorem SR1.of_plain {k:Ctx} {w:World} {β:Nat→Nat} {A:Nat→Prop} {u:List Nat} {v:V} {x:Value} (hp:v.plain=true):SR1 k w β A u v x=VR k w v x:=by
 cases v with
 | vec xs c=>cases c <;> first | rfl | simp [V.plain] at hp
 | undef=>simp [V.plain] at hp
 | lptr=>simp [V.plain] at hp
 | itr=>simp [V.plain] at hp
 | _=>rfl
theorem SR.of_plain {k:Ctx} {w:World} {β:Nat→Nat} {A:Nat→Prop} {u:List Nat} {v:V} {x:Value} (hp:v.plain=true):SR k w β A u v x=VR k w v x:=by
 cases v with
 | tuple vs=>simp [V.plain] at hp
 | _=>rw [SR.eq1 (by simp)]; exact SR1.of_plain hp
theorem VR.plain {k:Ctx} {w:World} {v:V} {x:Value} (h:VR k w v x):v.plain=true:=by
 cases h <;> first | rfl | (rename_i c hc; cases c <;> first | rfl | simp [Cap.shared] at hc) | (rename_i hc _ _ _ _ _ _; revert hc; cases ‹Cap› <;> simp [Cap.shared,V.plain])
theorem VR.sr {k:Ctx} {w:World} {β:Nat→Nat} {A:Nat→Prop} {u:List Nat} {v:V} {x:Value} (h:VR k w v x):SR k w β A u v x:=by
 rw [SR.of_plain h.plain]; exact h
theorem VR.sr1 {k:Ctx} {w:World} {β:Nat→Nat} {A:Nat→Prop} {u:List Nat} {v:V} {x:Value} (h:VR k w v x):SR1 k w β A u v x:=by
 rw [SR1.of_plain h.plain]; exact h
theorem VR.any {k:Ctx} {w:World} {xs:List V} {c:Cap} {x:Value} (h:VR k w (.vec xs c) x):VR k w (.vec xs .any) x:=by
 cases h with
 | vecNil c hc=>exact .vecNil .any rfl
 | vec xs c a len cap sz val hc hlen hcap hfull hsz hcell hval=>exact .vec xs .any a len cap sz val rfl hlen hcap (by simp) hsz hcell hval
theorem SR1.out {k:Ctx} {w:World} {β:Nat→Nat} {A:Nat→Prop} {u:List Nat} {v v':V} {x:Value} (h:SR1 k w β A u v x) (ho:v.out=some v'):VR k w v' x:=by
 cases v with
 | vec xs c =>
  cases c with
  | own s=>simp [V.out] at ho; subst ho; exact h.1
  | any=>simp [V.out] at ho; subst ho; exact h
  | full=>simp [V.out] at ho; subst ho; exact VR.any h
 | undef=>simp [V.out] at ho
 | lptr=>simp [V.out] at ho
 | itr=>simp [V.out] at ho
 | tuple=>simp [V.out] at ho
 | _=>simp [V.out] at ho; subst ho; exact h
theorem SR.out {k:Ctx} {w:World} {β:Nat→Nat} {A:Nat→Prop} {u:List Nat} {v v':V} {x:Value} (h:SR k w β A u v x) (ho:v.out=some v'):VR k w v' x:=by
 by_cases hv:∀ vs,v ≠ .tuple vs
 ·rw [SR.eq1 hv] at h; exact h.out ho
 ·cases v with
  | tuple=>simp [V.out] at ho
  | _=>exact absurd (fun vs=>by simp) hv
theorem SR.outS {k:Ctx} {w:World} {β:Nat→Nat} {A:Nat→Prop} {u:List Nat} {v v':V} {x:Value} (h:SR k w β A u v x) (ho:v.outS=some v'):VR k w v' x:=by
 cases v with
 | vec xs c=>cases c with
  | full=>simp [V.outS] at ho; subst ho; exact h
  | _=>exact SR.out h ho
 | _=>exact SR.out h ho
theorem VR.full_cap {k:Ctx} {w:World} {xs:List V} {b:Option Addr} {n c:Nat} (h:VR k w (.vec xs .full) (.slice b n c)):c=xs.length:=by
 cases h with
 | vecNil=>rfl
 | vec _ _ _ _ _ _ _ _ hlen _ hfull=>rw [hfull rfl,hlen]
def Zxe:Cap→Cap
 | .own _=>.any
 | c=>c
theorem Zp4 {c:Cap} (h:c=.full):Zxe c=.full:=by subst h; rfl
theorem SR.vec {k:Ctx} {w:World} {β:Nat→Nat} {A:Nat→Prop} {u:List Nat} {xs:List V} {c:Cap} {x:Value} (h:SR k w β A u (.vec xs c) x):VR k w (.vec xs (Zxe c)) x:=by
 cases c with
 | own s=>exact h.1
 | any=>exact h
 | full=>exact h
structure Entry where
 k:Ctx
 h:H
 w:World
 res:Nat→Prop
 D:List Deferred
 X:Nat→Value
 Y:Nat→Option V
def Held (N:Nat × Nat) (e:Entry) (k:Ctx) (w:World) (a:Act):Prop:=a.defers=e.D∧∀ t,t < N.1→a.tmps.getD t undef=e.X t∧∀ v,e.Y t=some v→VR k w v (e.X t)
theorem Held.mono {N:Nat × Nat} {e:Entry} {k k':Ctx} {w w':World} {a:Act} (h:Held N e k w a) (hk:Keeps k k' w w'):Held N e k' w' a:=
 ⟨h.1,fun t ht=>⟨(h.2 t ht).1,fun v hv=>((h.2 t ht).2 v hv).mono hk⟩⟩
def ORel (k:Ctx) (w:World) (h:H):O→Option Obj→Prop
 | .cells cs,o=>∃ c e,o=some (.cells c e (0,0))∧cs.length ≤ c.size∧CRs k w cs (c.toList.take cs.length)
 | .map es ver,o=>∃ en clock,o=some (.map en clock)∧en.size=es.length ∧
   (∀ (j:Nat) (a v:V),es[j]?=some (a,v)→∃ e,en[j]?=some e∧VR k w a e.key∧VR k w v e.val) ∧
   (∀ (i j:Nat) (a b:MapEntry),en[i]?=some a→en[j]?=some b→i < j→a.born < b.born)∧(∀ (i:Nat) (a:MapEntry),en[i]?=some a→a.born < clock)
 | .iter m ver seen,o=>∃ since sb stepped,o=some (.mapIter (some (k.ω m)) since sb stepped)∧m < k.nx ∧
   ∀ es ver' en clock,h.objs m=some (.map es ver')→w.heap[k.ω m]?=some (.map en clock) →
    ver ≤ ver'∧(ver=ver'→since=clock∧stepped=clock∧seen.Nodup∧(∀ j ∈ seen,j < es.length)∧sb.toList=seen.reverse.map fun j=>(en.getD j default).born)
structure WR (k:Ctx) (h:H) (w:World) (G:List (Nat × List V)):Prop where
 nx:k.nx=h.next
 obj:∀ (id:Nat) (o:O),h.objs id=some o→id < h.next∧k.ω id < w.heap.size∧k.lim (k.ω id)=0∧ORel k w h o w.heap[k.ω id]?
 inj:∀ (id id':Nat) (o o':O),h.objs id=some o→h.objs id'=some o'→k.ω id=k.ω id'→id=id'
 glob:∀ g cells,(g,cells) ∈ G→VR k w (.iptr cells) (.pointer (some ⟨g,0,none⟩))
structure Old (e:Entry) (k:Ctx) (h:H) (w:World):Prop where
 keeps:Keeps e.k k e.w w
 lim:∀ (b:Nat),b < e.w.heap.size→k.lim b=e.k.lim b
 same:∀ (b:Nat),b < e.w.heap.size→(∀ id o,e.h.objs id=some o→e.k.ω id ≠ b)→w.heap[b]?=e.w.heap[b]?
 src:∀ (id:Nat) (o:O),h.objs id=some o→k.ω id < e.w.heap.size→∃ id0 o0,e.h.objs id0=some o0∧e.k.ω id0=k.ω id
 misc:w.tape=e.w.tape∧w.os=e.w.os∧w.output=e.w.output
structure FW (G:List (Nat × List V)) (N:Nat × Nat) (e:Entry) (k:Ctx) (β:Nat→Nat) (A:Nat→Prop) (st:S) (a:Act) (w:World):Prop where
 slot:∀ (t:Nat),SR k w β A st.u (st.ρ t) (a.tmps.getD t undef)
 size:a.tmps.size=N.2
 defers:Held N e k w a
 mem:∀ (s:Nat) (cs:List V),st.m s=some cs→A s∧k.lim (β s)=0∧∃ c e,w.heap[β s]?=some (.cells c e (0,0))∧c.size=cs.length ∧
  ∀ (j:Nat) (v:V),cs[j]?=some v→∃ x,c[j]?=some x∧SR1 k w β A st.u v x∧x.oneCell'=true
 alloc:∀ (s:Nat),A s→s < st.n∧e.w.heap.size ≤ β s∧β s < w.heap.size∧∀ id o,st.h.objs id=some o→k.ω id ≠ β s
 ainj:∀ (s s':Nat),A s→A s'→β s=β s'→s=s'
 res:∀ (s:Nat),e.res s→s < st.n∧¬ A s
 wr:WR k st.h w G
 old:Old e k st.h w
def Inv (G:List (Nat × List V)) (N:Nat × Nat) (e:Entry) (st:S) (a:Act) (w:World):Prop:=∃ k β A,FW G N e k β A st a w
structure Stays (k k':Ctx) (w w':World) (β β':Nat→Nat) (A A':Nat→Prop) (u u':List Nat):Prop where
 keeps:Keeps k k' w w'
 beta:∀ s,A s→A' s∨s ∈ u'
 same:∀ s,A s→β' s=β s
 used:∀ s,s ∈ u→s ∈ u'
 lim:∀ s,A s→s ∉ u'→k'.lim (β s)=k.lim (β s)
 lim0:∀ s,A s→k.lim (β s)=0→A' s∧k'.lim (β s)=0
theorem SR1.mono {k k':Ctx} {w w':World} {β β':Nat→Nat} {A A':Nat→Prop} {u u':List Nat} {v:V} {x:Value}
  (h:SR1 k w β A u v x) (hs:Stays k k' w w' β β' A A' u u'):SR1 k' w' β' A' u' v x:=by
 cases v with
 | vec xs c =>
  cases c with
  | own s =>
   refine ⟨VR.mono h.1 hs.keeps,fun hu=>?_⟩
   have hu0:s ∉ u:=fun hx=>hu (hs.used s hx)
   rcases h.2 hu0 with h2 | h2
   rotate_left
   ·exact .inr (VR.mono h2 hs.keeps)
   obtain ⟨hA,a,cap,sz,hx,hb,hsp,hsz,hne,hall,hend,hc⟩:=h2
   have hA':A' s:=(hs.beta s hA).resolve_right hu
   refine .inl ⟨hA',a,cap,sz,hx,by rw [hs.same s hA]; exact hb,hsp,hsz,hne,hall,?_,?_⟩
   ·rw [hs.same s hA,hs.lim s hA hu]; exact hend
   ·rw [hs.same s hA]; exact hc.mono hs.keeps
  | any=>exact VR.mono h hs.keeps
  | full=>exact VR.mono h hs.keeps
 | lptr s z o =>
  obtain ⟨hx,hA,hl,c,e,hc,hz⟩:=h
  obtain ⟨hA',hl'⟩:=hs.lim0 s hA hl
  obtain ⟨c',hc',hz'⟩:=hs.keeps.rows _ c e hc
  exact ⟨by rw [hs.same s hA]; exact hx,hA',by rw [hs.same s hA]; exact hl',c',e,by rw [hs.same s hA]; exact hc',by omega⟩
 | itr id=>exact ⟨by rw [hs.keeps.om id h.2]; exact h.1,Nat.lt_of_lt_of_le h.2 hs.keeps.nx⟩
 | undef=>trivial
 | tuple vs=>exact VR.mono (h:VR k w (.tuple vs) x) hs.keeps
 | bool | int | str | ref | iptr | ptr | nilptr | map | nilmap | func | nilfunc | iface | niliface | agg=>exact VR.mono h hs.keeps
theorem SR.mono {k k':Ctx} {w w':World} {β β':Nat→Nat} {A A':Nat→Prop} {u u':List Nat} {v:V} {x:Value}
  (h:SR k w β A u v x) (hs:Stays k k' w w' β β' A A' u u'):SR k' w' β' A' u' v x:=by
 cases v with
 | tuple vs =>
  obtain ⟨xs,hx,hsz,hall⟩:=h
  exact ⟨xs,hx,hsz,fun j v hj=>let ⟨y,hy,hr⟩:=hall j v hj; ⟨y,hy,hr.mono hs⟩⟩
 | _=>rw [SR.eq1 (by simp)] at h ⊢; exact h.mono hs
theorem Zih {k:Ctx} {w:World} {v:Value} {u:V} (hu:Znq v=some u):VR k w u v:=by
 unfold Znq at hu
 split at hu
 case h_9 f p q =>
  split at hu
  ·rename_i hpq
   simp only [Option.some.injEq] at hu
   subst hu
   exact .func _ [] [] p q (fun _=>undef) (fun _=>undef) hpq.1 hpq.2 (by simp) (by simp) (by simp) (by simp)
  ·simp at hu
 all_goals (simp only [Option.some.injEq,reduceCtorEq] at hu <;> subst hu)
 all_goals first | exact .vecNil _ rfl | constructor
theorem Ze6 {k:Ctx} {w:World}:∀ {cs:List Value} {l:List V},Zk3 cs=some l→CRs k w l cs
 | [],l,hl=>by simp [Zk3] at hl; subst hl; exact ⟨rfl,by simp⟩
 | c :: cs,l,hl=>by
  simp only [Zk3] at hl
  split at hl
  ·rename_i p q hp hq
   simp at hl; subst hl
   obtain ⟨h1,h2⟩:=Ze6 hq
   have hr:VR k w p c:=Zih hp
   refine ⟨by simp [h1],fun j v hj=>?_⟩
   cases j with
   | zero =>
    simp at hj; subst hj
    refine ⟨c,by simp,hr,hr.one (fun l hl=>?_)⟩
    subst hl
    unfold Znq at hp
    split at hp
    case h_9=>split at hp <;> simp at hp
    all_goals simp at hp
   | succ j=>simpa using h2 j v (by simpa using hj)
  ·simp at hl
theorem VR.weak {k:Ctx} {w:World} {v:V} {x:Value} (h:VR k w v x):VR k w v.weak x:=by
 cases v with
 | vec xs c=>cases c with
  | full=>exact VR.any h
  | _=>exact h
 | _=>exact h
theorem V.weak_len (z:List V):(z.map V.weak).length=z.length:=List.length_map ..
theorem CRs.weak {k:Ctx} {w:World} {vs:List V} {xs:List Value} (h:CRs k w vs xs):CRs k w (vs.map V.weak) xs:=by
 refine ⟨by rw [List.length_map]; exact h.1,fun j v hj=>?_⟩
 rw [List.getElem?_map,Option.map_eq_some_iff] at hj
 obtain ⟨v0,h0,rfl⟩:=hj
 obtain ⟨x,h1,h2,h3⟩:=h.2 j v0 h0
 exact ⟨x,h1,h2.weak,h3⟩
theorem CRs.weakZ {k:Ctx} {w:World} {vs:List V} {xs:List Value} {hs:Hints} {d:Option Nat} (h:CRs k w vs xs):CRs k w (weakZ hs d vs) xs:=by
 unfold Go.Ab.weakZ
 split
 ·exact h
 ·exact h.weak
theorem weakZ_len {hs:Hints} {d:Option Nat} {z:List V}:(weakZ hs d z).length=z.length:=by
 unfold weakZ
 split
 ·rfl
 ·exact V.weak_len z
theorem Zjn {k:Ctx} {w:World} {v:Value} {u:V} (hu:ofVal v=some u):VR k w u v:=by
 unfold ofVal at hu
 split at hu
 ·rename_i cs
  simp only [Option.map_eq_some_iff] at hu
  obtain ⟨l,hl,rfl⟩:=hu
  exact VR.of_cells (Ze6 hl).weak
 ·exact Zih hu
theorem Zfy (xs:Array Value) (d t:Nat) (v:Value) (hd:d < xs.size):(xs.setIfInBounds d v).getD t undef=if t=d then v else xs.getD t undef:=by
 simp only [Array.getD_eq_getD_getElem?,Array.getElem?_setIfInBounds]
 by_cases h:d=t
 ·subst h; simp [hd]
 ·have h':¬ t=d:=fun x=>h x.symm
  simp [h,h']
section
variable {G:List (Nat × List V)} {N:Nat × Nat} {e:Entry} {k:Ctx} {β:Nat→Nat} {A:Nat→Prop} {st:S} {a:Act} {w:World}
theorem FW.put (h:FW G N e k β A st a w) {d:Option Nat} {v:V} {x:Value} (hd:∀ t,d=some t→InN N t) (hv:SR k w β A st.u v x) :
  FW G N e k β A (st.put d v) (a.put d x) w:=by
 cases d with
 | none=>exact h
 | some d =>
  have hd':d < a.tmps.size:=by rw [h.size]; exact (hd d rfl).2
  refine { h with slot:=fun t=>?_,size:=?_,defers:=⟨h.defers.1,fun t ht=>?_⟩ }
  rotate_left 2
  ·simp only [Act.put]
   rw [Zfy _ _ _ _ hd',if_neg (by have:=(hd d rfl).1; omega)]
   exact h.defers.2 t ht
  ·simp only [S.put,Act.put,upd]
   rw [Zfy _ _ _ _ hd']
   split <;> rename_i ht
   ·exact hv
   ·exact h.slot t
  ·simp [Act.put,h.size]
theorem FW.tick (h:FW G N e k β A st a w):FW G N e k β A st.tick a w:=
 { h with alloc:=fun s hs=>let ⟨x,y⟩:=h.alloc s hs; ⟨Nat.lt_succ_of_lt x,y⟩,res:=fun s hs=>⟨Nat.lt_succ_of_lt (h.res s hs).1,(h.res s hs).2⟩ }
theorem FW.arg (h:FW G N e k β A st a w) {x:Arg} {o:Operand} {hs:Hints} (ht:Zav hs o=some x) (hG:∀ g cells,(g,cells) ∈ hs.glob→(g,cells) ∈ G) :
  SR k w β A st.u (evA st.ρ x) (a.eval o):=by
 cases o with
 | tmp t=>simp [Zav] at ht; subst ht; exact h.slot t
 | const v =>
  simp only [Zav,Option.map_eq_some_iff] at ht
  obtain ⟨u,hu,rfl⟩:=ht
  exact VR.sr (Zjn hu)
 | global g =>
  simp only [Zav,Option.map_eq_some_iff] at ht
  obtain ⟨cells,⟨p,hp,rfl⟩,rfl⟩:=ht
  have h1:=List.mem_of_find?_eq_some hp
  have h2:=List.find?_some hp
  have h3:p.1=g:=by simpa using h2
  refine VR.sr (h.wr.glob g p.2 (hG _ _ ?_))
  rw [← h3]; exact h1
 | func f =>
  simp [Zav] at ht; subst ht
  exact VR.sr (.func _ [] [] #[] #[] (fun _=>undef) (fun _=>undef) rfl rfl (by simp) (by simp) (by simp) (by simp))
theorem FW.args (h:FW G N e k β A st a w) {hs:Hints} (hG:∀ g cells,(g,cells) ∈ hs.glob→(g,cells) ∈ G) :
  ∀ {os:List Operand} {xs:List Arg},Zbs hs os=some xs→xs.length=os.length∧∀ (j:Nat) (x:Arg),xs[j]?=some x→∃ o,os[j]?=some o∧SR k w β A st.u (evA st.ρ x) (a.eval o)
 | [],xs,ht=>by simp [Zbs] at ht; subst ht; simp
 | o :: os,xs,ht=>by
  simp only [Zbs] at ht
  split at ht
  ·rename_i p q hp hq
   simp at ht; subst ht
   obtain ⟨h1,h2⟩:=FW.args h hG hq
   refine ⟨by simp [h1],fun j x hj=>?_⟩
   cases j with
   | zero=>simp at hj; subst hj; exact ⟨o,by simp,h.arg hp hG⟩
   | succ j=>simpa using h2 j x (by simpa using hj)
  ·simp at ht
end
end Go.Ab
namespace Go.Ab
theorem Zaf {α β:Type} {x:Option α} {f:α→Option β} {b:β} (h:(x >>= f)=some b):∃ a,x=some a∧f a=some b:=by
 cases x with
 | none=>simp at h
 | some a=>exact ⟨a,rfl,h⟩
section
variable {P:Program} {w:World}
theorem Za3 {t:TypeId} {n:Nat} (h:Zbz P t=some n):(sizeOf t).run P w=.ok n w:=by
 unfold Zbz at h
 cases hi:P.info? t with
 | none=>simp [hi] at h
 | some i=>simp [hi] at h; simp [sizeOf,typeInfo,hi,h]
theorem Zgp {t:TypeId} {n:Nat} (h:Zgh P t=some n):∃ i,(typeInfo t).run P w=.ok i w∧i.bytes=n:=by
 unfold Zgh at h
 cases hi:P.info? t with
 | none=>simp [hi] at h
 | some i=>simp [hi] at h; exact ⟨i,by simp [typeInfo,hi],h⟩
theorem Zaa {t:TypeId} {d:TypeDesc} (h:P.underlying t=some d):(underlying t).run P w=.ok d w:=by
 simp [underlying,h]
theorem Ze3 {t:TypeId} {ag:Bool} (h:aggT P t=some ag):(isAgg t).run P w=.ok ag w:=by
 unfold aggT at h
 cases hu:P.underlying t with
 | none=>simp [hu] at h
 | some d=>cases d <;> simp [hu] at h <;> subst h <;> simp [isAgg,underlying,hu]
theorem Zcq {t:TypeId} {n:Nat} {a:Addr} {xs:List Value} (hn:Zbz P t=some n) (ha:aggT P t=some true) (hl:xs.length=n)
  (h:∀ j v,xs[j]?=some v→w.cell? (a.add j)=some v):(loadVar t a).run P w=.ok (.agg xs.toArray) w:=by
 subst hl
 simp only [loadVar,Sem.run_bind,Ze3 ha,Result.andThen_ok,if_true,Za3 hn,run_loadCells_list w a xs h,Sem.run_pure]
theorem Zdc {t:TypeId} {a:Addr} {x:Value} (ha:aggT P t=some false) (h:w.cell? a=some x):(loadVar t a).run P w=.ok x w:=by
 simp only [loadVar,Sem.run_bind,Ze3 ha,Result.andThen_ok,if_false,Bool.false_eq_true,run_load,h]
end
theorem Zif {w:World} {a:Addr} {v:Value} (h:w.cell? a=some v):a.spot=none:=by
 unfold World.cell? at h
 split at h
 ·cases hs:a.spot with
  | none=>rfl
  | some z=>simp [hs] at h
 ·simp at h
theorem Zbf {α:Type} {l:List α} {n j:Nat} {x:α} (h:(l.take n)[j]?=some x):l[j]?=some x∧j < n:=by
 rw [List.getElem?_take] at h
 split at h
 ·exact ⟨h,by assumption⟩
 ·simp at h
theorem CRs.nth {k:Ctx} {w:World} {vs:List V} {xs:List Value} (h:CRs k w vs xs) {j:Nat} {v:V} (hj:vs[j]?=some v) :
  ∃ x,xs[j]?=some x∧VR k w v x∧x.oneCell'=true:=h.2 j v hj
theorem CRs.slice {k:Ctx} {w:World} {vs:List V} {xs:List Value} (h:CRs k w vs xs) (off n:Nat):CRs k w ((vs.drop off).take n) ((xs.drop off).take n):=by
 refine ⟨by simp [h.1],fun j v hj=>?_⟩
 obtain ⟨h1,h2⟩:=Zbf hj
 rw [List.getElem?_drop] at h1
 obtain ⟨x,hx,hr⟩:=h.2 _ v h1
 exact ⟨x,by rw [List.getElem?_take,if_pos h2,List.getElem?_drop]; exact hx,hr⟩
theorem Zvd {k:Ctx} {w:World} {β:Nat→Nat} {A:Nat→Prop} {u:List Nat}:∀ {vs l:List V} {xs:List Value},outs vs=some l→xs.length=vs.length →
  (∀ (j:Nat) (v:V),vs[j]?=some v→∃ x,xs[j]?=some x∧SR k w β A u v x∧x.oneCell'=true)→CRs k w l xs
 | [],l,xs,ho,hl,h=>by simp [outs] at ho; subst ho; exact ⟨by simpa using hl,by simp⟩
 | v :: vs,l,xs,ho,hl,h=>by
  simp only [outs] at ho
  split at ho
  ·rename_i p q hp hq
   simp at ho; subst ho
   cases xs with
   | nil=>simp at hl
   | cons x xs =>
    obtain ⟨h1,h2⟩:=Zvd (β:=β) (A:=A) (u:=u) hq (by simpa using hl) (fun j v hj=>by simpa using h (j + 1) v (by simpa using hj))
    refine ⟨by simp [h1],fun j y hj=>?_⟩
    cases j with
    | zero =>
     simp at hj; subst hj
     obtain ⟨x',hx',hr,h1⟩:=h 0 v (by simp)
     simp at hx'; subst hx'
     exact ⟨x,by simp,hr.out hp,h1⟩
    | succ j=>simpa using h2 j y (by simpa using hj)
  ·simp at ho
section
variable {G:List (Nat × List V)} {N:Nat × Nat} {e:Entry} {k:Ctx} {β:Nat→Nat} {A:Nat→Prop} {st:S} {a:Act} {w:World} {P:Program}
theorem H.get_some {h:H} {id:Nat} {cs:List V} (hg:h.get id=some cs):h.objs id=some (.cells cs):=by
 unfold H.get at hg
 split at hg
 ·rename_i c hc; simp at hg; subst hg; exact hc
 ·simp at hg
theorem FW.objCells (h:FW G N e k β A st a w) {id:Nat} {cs:List V} (hg:st.h.get id=some cs) :
  ∃ c e',w.heap[k.ω id]?=some (.cells c e' (0,0))∧cs.length ≤ c.size∧CRs k w cs (c.toList.take cs.length):=by
 obtain ⟨_,_,_,c,e',hc,hl,hr⟩:=h.wr.obj id _ (H.get_some hg)
 exact ⟨c,e',hc,hl,hr⟩
theorem Zax {b i:Nat} {c:Array Value} {e':TypeId} {f:Nat × Nat} (h:w.heap[b]?=some (.cells c e' f)):w.cell? ⟨b,i,none⟩=c[i]?:=by
 simp [World.cell?,h]
theorem Zla (h:FW G N e k β A st a w) {p:V} {x:Value} (hp:SR k w β A st.u p x) {t:TypeId} {n:Nat} {ag:Bool} {v:V}
  (hn:Zbz P t=some n) (ha:aggT P t=some ag) (hv:Zep st.m st.h p n ag=some v) :
  ∃ y,(Instr.loadAt t x).run P w=.ok y w∧SR k w β A st.u v y:=by
 cases p with
 | iptr cs =>
  cases (show VR k w (.iptr cs) x from hp) with
  | iptr _ ad val hsp hcell hval =>
   simp only [Zep,takeV] at hv
   split at hv
   ·split at hv
    ·rename_i hag hle
     subst hag
     simp at hv; subst hv
     refine ⟨.agg ((List.range n).map val).toArray,?_,VR.sr (VR.of_cells ⟨by simp; omega,fun j v hj=>?_⟩)⟩
     ·simp only [Instr.loadAt,Sem.run_bind,Instr.sureAddr,Sem.run_pure,Result.andThen_ok]
      refine Zcq hn ha (by simp) (fun j y hj=>?_)
      simp only [List.getElem?_map,Option.map_eq_some_iff] at hj
      obtain ⟨i,hi,rfl⟩:=hj
      have hjn:j < n:=by
       rcases Nat.lt_or_ge j n with h' | h'
       ·exact h'
       ·rw [List.getElem?_eq_none (by simpa using h')] at hi; simp at hi
      rw [List.getElem?_range hjn] at hi
      simp at hi; subst hi
      exact (hcell _ (cs[j]'(by omega)) (List.getElem?_eq_getElem _)).1
     ·obtain ⟨h1,h2⟩:=Zbf hj
      have h1:cs[j]?=some v:=by simpa using h1
      exact ⟨val j,by simp [h2],hval j v h1,(hcell j v h1).2.2⟩
    ·simp at hv
   ·rename_i hag
    have hag':ag=false:=by simpa using hag
    subst hag'
    obtain ⟨h1,h2,h3⟩:=hcell 0 v hv
    refine ⟨val 0,?_,VR.sr (hval 0 v hv)⟩
    simp only [Instr.loadAt,Sem.run_bind,Instr.sureAddr,Sem.run_pure,Result.andThen_ok]
    exact Zdc ha (by simpa [Addr.add] using h1)
 | ptr id o =>
  cases (show VR k w (.ptr id o) x from hp) with
  | ptr _ _ b hb hid =>
   subst hb
   simp only [Zep] at hv
   split at hv
   ·rename_i cs hg
    obtain ⟨c,e',hc,hl,hr⟩:=h.objCells hg
    simp only [Instr.loadAt,Sem.run_bind,Instr.sureAddr,Sem.run_pure,Result.andThen_ok]
    unfold takeV at hv
    split at hv
    ·rename_i hag
     subst hag
     split at hv
     ·rename_i hle
      simp at hv; subst hv
      have hs:=hr.slice o n
      refine ⟨_,Zcq (xs:=((c.toList.take cs.length).drop o).take n) hn ha (by simp; omega) (fun j y hj=>?_),VR.sr (VR.of_cells (by simpa using hs))⟩
      obtain ⟨h1,h2⟩:=Zbf hj
      rw [List.getElem?_drop] at h1
      obtain ⟨h3,h4⟩:=Zbf h1
      rw [Zb7,Zax hc]
      simpa using h3
     ·simp at hv
    ·rename_i hag
     have hag':ag=false:=by simpa using hag
     subst hag'
     obtain ⟨y,hy,hr,_⟩:=hr.nth hv
     refine ⟨y,Zdc ha ?_,VR.sr hr⟩
     rw [Zax hc]
     simpa using (Zbf hy).1
   ·simp at hv
 | lptr s z o =>
  obtain ⟨rfl,hA,hl0,_⟩:=(show SR1 k w β A st.u (.lptr s z o) x from hp)
  simp only [Zep] at hv
  split at hv
  ·rename_i cs hm
   ·obtain ⟨_,_,c,e',hc,hl,hr⟩:=h.mem _ _ hm
    simp only [Instr.loadAt,Sem.run_bind,Instr.sureAddr,Sem.run_pure,Result.andThen_ok]
    unfold takeL at hv
    split at hv
    ·rename_i hag
     subst hag
     split at hv
     ·rename_i hle
      simp only [Option.map_eq_some_iff] at hv
      obtain ⟨l,hl',rfl⟩:=hv
      have hcr:CRs k w l ((c.toList.drop o).take n):=by
       refine Zvd (β:=β) (A:=A) (u:=st.u) hl' (by simp [hl]) (fun j v hj=>?_)
       obtain ⟨h1,h2⟩:=Zbf hj
       rw [List.getElem?_drop] at h1
       obtain ⟨y,hy,hry,h1y⟩:=hr _ v h1
       refine ⟨y,by rw [List.getElem?_take,if_pos h2,List.getElem?_drop]; simpa using hy,?_,h1y⟩
       by_cases hv':∀ vs,v ≠ .tuple vs
       ·rw [SR.eq1 hv']; exact hry
       ·cases v with
        | tuple vs=>cases (show VR k w (.tuple vs) y from hry)
        | _=>exact absurd (fun vs=>by simp) hv'
      refine ⟨_,Zcq (xs:=(c.toList.drop o).take n) hn ha (by simp; omega) (fun j y hj=>?_),VR.sr (VR.of_cells (by simpa using hcr))⟩
      obtain ⟨h1,h2⟩:=Zbf hj
      rw [List.getElem?_drop] at h1
      rw [Zb7,Zax hc]
      simpa using h1
     ·simp at hv
    ·rename_i hag
     have hag':ag=false:=by simpa using hag
     subst hag'
     obtain ⟨y,hy,hr,_⟩:=hr _ _ hv
     refine ⟨y,Zdc ha ?_,?_⟩
     ·rw [Zax hc]; exact hy
     ·by_cases hv':∀ vs,v ≠ .tuple vs
      ·rw [SR.eq1 hv']; exact hr
      ·cases v with
       | tuple vs=>cases (show VR k w (.tuple vs) y from hr)
       | _=>exact absurd (fun vs=>by simp) hv'
  ·simp at hv
 | _=>simp [Zep] at hv
theorem Zlq {p q:V} {x:Value} {u:List Nat} (hp:SR k w β A u p x) {off:Nat} (hq:addP p off=some q) :
  ∃ ad,x=.pointer (some ad)∧SR k w β A u q (.pointer (some (ad.add off))):=by
 cases p with
 | iptr cs =>
  cases (show VR k w (.iptr cs) x from hp) with
  | iptr _ ad val hsp hcell hval =>
   simp only [addP] at hq
   split at hq
   ·simp at hq; subst hq
    refine ⟨ad,rfl,VR.sr (.iptr _ _ (fun j=>val (off + j)) (Zm6 _ _ hsp) (fun j v hj=>?_) (fun j v hj=>?_))⟩
    all_goals rw [List.getElem?_drop] at hj
    ·rw [Zdt,Zbi]; exact hcell _ _ hj
    ·exact hval _ _ hj
   ·simp at hq
 | ptr id o =>
  cases (show VR k w (.ptr id o) x from hp) with
  | ptr _ _ b hb hid =>
   simp [addP] at hq; subst hq
   exact ⟨_,rfl,by rw [Zb7]; exact VR.sr (.ptr id (o + off) b hb hid)⟩
 | lptr s z o =>
  obtain ⟨rfl,hA,hl,hc⟩:=(show SR1 k w β A u (.lptr s z o) x from hp)
  simp [addP] at hq; subst hq
  exact ⟨_,rfl,by rw [Zb7]; exact ⟨rfl,hA,hl,hc⟩⟩
 | _=>simp [addP] at hq
theorem Zwj {p q:V} {x:Value} {u:List Nat} (hp:SR k w β A u p x) {s:TypeId} {fs:Array Field} {i:Nat} {fd:Field} {n:Nat}
  (hs:P.underlying s=some (.struct fs)) (hf:fs[i]?=some fd) (hn:Zbz P fd.type=some n) (h0:n ≠ 0) (hq:addP p fd.offset=some q) :
  ∃ y,(Instr.fieldAt s x i).run P w=.ok y w∧SR k w β A u q y:=by
 obtain ⟨ad,rfl,hr⟩:=Zlq hp hq
 refine ⟨_,?_,hr⟩
 simp [Instr.fieldAt,Zaa hs,hf,Instr.sureAddr,fieldPlace,Za3 hn,h0]
theorem Ztc {p q:V} {x y:Value} {i:V} {u:List Nat} (hp:SR k w β A u p x) (hi:SR k w β A u i y) {t el:TypeId} {sz:Nat}
  (ht:P.underlying t=some (.slice el)) (hn:Zbz P el=some sz) (h0:0 < sz) (hq:Zit p i sz=some q) :
  ∃ z,(Instr.indexAt t x y).run P w=.ok z w∧SR k w β A u q z:=by
 unfold Zit at hq
 split at hq
 ·rename_i xs c kk n
  cases (show VR k w (.int kk n) y from hi)
  split at hq
  ·rename_i hpos
   split at hq
   ·rename_i ee hee
    split at hq
    ·rename_i hlen
     simp at hq; subst hq
     have hp':=SR.vec hp
     cases hp' with
     | vecNil=>simp at hee
     | vec _ _ ad len cap sz' val hc hle hcap hfull hsz hcell hval =>
      have hszz:sz'=sz:=by rw [← hsz _ _ hee,hlen]
      subst hszz
      have hilt:n.toNat < xs.length:=by
       rcases Nat.lt_or_ge n.toNat xs.length with h' | h'
       ·exact h'
       ·rw [List.getElem?_eq_none h'] at hee; simp at hee
      refine ⟨.pointer (some (ad.add (n.toNat * sz'))),?_,VR.sr (.iptr _ _ (fun j=>val n.toNat j) ?_ (fun j v hj=>?_) (fun j v hj=>hval _ _ _ _ hee hj))⟩
      ·have hcond:0 ≤ n∧n < (len:Int):=⟨hpos,by omega⟩
       simp [Instr.indexAt,asIntOf,Zaa ht,hcond,Za3 hn]
      ·have h1:=(hcell n.toNat ee 0 (ee.cells[0]'(by omega)) hee (List.getElem?_eq_getElem _)).1
       exact Zif h1
      ·rw [Zdt,Zbi]
       exact hcell _ _ _ _ hee hj
    ·simp at hq
   ·simp at hq
  ·simp at hq
 ·rename_i id off len z kk n
  cases (show VR k w (.int kk n) y from hi)
  split at hq
  ·rename_i hc
   obtain ⟨h1,h2,rfl⟩:=hc
   simp at hq; subst hq
   cases (show VR k w (.ref id off len z) x from hp) with
   | ref _ _ _ _ cap b hb hid hl hcap =>
    refine ⟨.pointer (some ⟨b,off + n.toNat * z,none⟩),?_,VR.sr (.ptr _ _ b hb hid)⟩
    have hcond:0 ≤ n∧n < (len:Int):=⟨h1,h2⟩
    simp [Instr.indexAt,asIntOf,Zaa ht,hcond,Za3 hn,Zb7]
  ·simp at hq
 ·simp at hq
theorem Ztd {p q:V} {x y:Value} {n:Int} {kk:IntKind} {u:List Nat} (hp:SR k w β A u p x) (hi:SR k w β A u (.int kk n) y) {t el:TypeId} {len sz:Nat}
  (ht:P.underlying t=some (.array len el)) (hn:Zbz P el=some sz) (hc:0 ≤ n∧n < (len:Int)) (hq:addP p (n.toNat * sz)=some q) :
  ∃ z,(Instr.indexAt t x y).run P w=.ok z w∧SR k w β A u q z:=by
 cases (show VR k w (.int kk n) y from hi)
 obtain ⟨ad,rfl,hr⟩:=Zlq hp hq
 refine ⟨_,?_,hr⟩
 simp [Instr.indexAt,asIntOf,Zaa ht,Instr.sureAddr,hc,Za3 hn]
theorem Zk1 {cs:List V} {xs:Array Value} {u:List Nat} (h:VR k w (.agg cs) (.agg xs)) {t:TypeId} {off n:Nat} {ag:Bool} {v:V}
  (hn:Zbz P t=some n) (ha:aggT P t=some ag) (hv:takeV cs off n ag=some v):∃ y,(part t xs off).run P w=.ok y w∧SR k w β A u v y:=by
 have hcr:CRs k w cs xs.toList:=h.cells
 unfold takeV at hv
 split at hv
 ·rename_i hag
  subst hag
  split at hv
  ·rename_i hle
   simp at hv; subst hv
   refine ⟨.agg (xs.extract off (off + n)),?_,VR.sr (VR.of_cells ?_)⟩
   ·simp [part,Ze3 ha,Za3 hn]
   ·have:=hcr.slice off n
    have he:(xs.extract off (off + n)).toList=(xs.toList.drop off).take n:=by
     simp [Array.toList_extract,List.extract_eq_take_drop,List.drop_take]
    rw [he]; exact this
  ·simp at hv
 ·rename_i hag
  have hag':ag=false:=by simpa using hag
  subst hag'
  obtain ⟨y,hy,hr,_⟩:=hcr.nth hv
  have hy':xs[off]?=some y:=by simpa using hy
  exact ⟨y,by simp [part,Ze3 ha,hy'],VR.sr hr⟩
end
end Go.Ab
namespace Go.Ab
section
variable {G:List (Nat × List V)} {N:Nat × Nat} {e:Entry} {k:Ctx} {β:Nat→Nat} {A:Nat→Prop} {st:S} {a:Act} {w:World} {P:Program} {u:List Nat}
theorem Ze1 {i:IntKind} {n:Int} {x:Value} (h:SR k w β A u (.int i n) x):x=.int i n:=by
 cases (show VR k w (.int i n) x from h); rfl
theorem Zje {b:Bool} {x:Value} (h:SR k w β A u (.bool b) x):x=.bool b:=by
 cases (show VR k w (.bool b) x from h); rfl
theorem Zku {s:ByteArray} {x:Value} (h:SR k w β A u (.str s) x):x=.string s:=by
 cases (show VR k w (.str s) x from h); rfl
theorem Zqr {cs:List V} {x:Value} (h:SR k w β A u (.agg cs) x):∃ xs,x=.agg xs∧VR k w (.agg cs) (.agg xs):=by
 have h':VR k w (.agg cs) x:=h
 cases h' with
 | agg _ xs val hs hx hv=>exact ⟨xs,rfl,.agg _ xs val hs hx hv⟩
theorem sr_asB {v:V} {x:Value} {b:Bool} (h:SR k w β A u v x) (hb:asB v=some b):x=.bool b:=by
 cases v <;> simp [asB] at hb
 subst hb; exact Zje h
theorem Zqq {v:V} {x:Value} {n:Int} (h:SR k w β A u v x) (hb:Zh2 v=some n):∃ i,v=.int i n∧x=.int i n:=by
 cases v <;> simp [Zh2] at hb
 subst hb; exact ⟨_,rfl,Ze1 h⟩
theorem str_get (s:ByteArray) (i:Nat):(s[i]?:Option UInt8)=s.data.toList[i]?:=by
 rw [Array.getElem?_toList]
 by_cases h:i < s.size
 ·have h':i < s.data.size:=h
  rw [getElem?_pos s i h,getElem?_pos s.data i h']; rfl
 ·have h':¬ i < s.data.size:=h
  rw [getElem?_neg s i h,getElem?_neg s.data i h']
theorem Ztr {op:BinOp} {x y:Int} {v:V} (hv:cmpI op x y=some v):∃ z,(Op.intCmp op x y).run P w=.ok z w∧SR k w β A u v z:=by
 cases op <;> simp [cmpI] at hv <;> subst hv <;> exact ⟨_,rfl,VR.sr (.bool _)⟩
theorem Zka {op:BinOp} {i:IntKind} {x y:Int} {v:V} (hv:Zp5 op i x y=some v):∃ z,(Op.intBits op i x y).run P w=.ok z w∧SR k w β A u v z:=by
 cases op <;> simp only [Zp5,Option.some.injEq,reduceCtorEq] at hv <;> subst hv <;> exact ⟨_,rfl,VR.sr (.int _ _)⟩
theorem Zt4 {op:BinOp} {t:TypeId} {i i':IntKind} {x y:Int} {v:V} (hv:binI op i x i' y=some v) :
  ∃ z,(binOp op t (.int i x) (.int i' y)).run P w=.ok z w∧SR k w β A u v z:=by
 cases op
 case shl =>
  simp only [binI] at hv
  split at hv
  ·simp at hv
  ·rename_i hy
   simp only [Option.some.injEq] at hv; subst hv
   exact ⟨_,by simp [binOp,Op.shift,hy],VR.sr (.int _ _)⟩
 case shr =>
  simp only [binI] at hv
  split at hv
  ·simp at hv
  ·rename_i hy
   simp only [Option.some.injEq] at hv; subst hv
   exact ⟨_,by simp [binOp,Op.shift,hy],VR.sr (.int _ _)⟩
 case quo =>
  simp only [binI] at hv
  split at hv
  ·rename_i hk
   split at hv
   ·simp at hv
   ·rename_i hy
    simp only [Option.some.injEq] at hv; subst hv
    exact ⟨_,by simp [binOp,hk,Op.intDiv,hy],VR.sr (.int _ _)⟩
  ·simp at hv
 case rem =>
  simp only [binI] at hv
  split at hv
  ·rename_i hk
   split at hv
   ·simp at hv
   ·rename_i hy
    simp only [Option.some.injEq] at hv; subst hv
    exact ⟨_,by simp [binOp,hk,Op.intDiv,hy],VR.sr (.int _ _)⟩
  ·simp at hv
 all_goals
  simp only [binI] at hv
  split at hv
  ·rename_i hk
   subst hk
   simp only [binOp,ne_eq,not_true_eq_false,if_false]
   first
    | (simp only [Option.some.injEq] at hv; subst hv; exact ⟨_,rfl,VR.sr (.int _ _)⟩)
    | exact Zka hv
    | exact Ztr hv
  ·simp at hv
theorem Zt3 {op:BinOp} {t:TypeId} {x y:ByteArray} {v:V} (hv:binS op x y=some v) :
  ∃ z,(binOp op t (.string x) (.string y)).run P w=.ok z w∧SR k w β A u v z:=by
 cases op <;> simp only [binS,reduceCtorEq] at hv
 case add =>
  split at hv
  ·rename_i hle
   simp only [Option.some.injEq] at hv; subst hv
   have hn:¬ ((x.size + y.size:Nat):Int) > IntKind.i64.max:=by
    have:IntKind.i64.max=9223372036854775807:=by decide
    rw [this]; omega
   exact ⟨.string (x ++ y),by simp only [binOp,Op.stringOp]; rw [if_neg hn]; rfl,VR.sr (.str _)⟩
  ·simp at hv
 all_goals
  simp only [Option.some.injEq] at hv; subst hv
  refine ⟨_,rfl,?_⟩
  first
   | (rw [bne,beq_toListBytes]; exact VR.sr (.bool _))
   | (rw [beq_toListBytes]; exact VR.sr (.bool _))
   | exact VR.sr (.bool _)
theorem Zn1 {q:KK} {v v':V} {x x':Value} {b:Bool} {t:TypeId} (h:VR k w v x) (h':VR k w v' x') (hb:eqC q v v'=some b) (ht:Zc3 P t=some q) (d:Nat) :
  (Op.equalIn (d + 1) t x x').run P w=.ok b w:=by
 unfold Zc3 at ht
 cases q
 ·have hu:∃ i,P.underlying t=some (.int i):=by
   split at ht <;> simp at ht
   exact ⟨_,by assumption⟩
  obtain ⟨i,hu⟩:=hu
  cases h <;> cases h' <;> simp [eqC] at hb
  obtain ⟨h1,h2⟩:=hb
  subst h1; subst h2
  exact run_equalIn_int w d t _ i _ _ hu
 ·have hu:P.underlying t=some .string:=by
   split at ht <;> simp at ht
   assumption
  cases h <;> cases h' <;> simp [eqC] at hb
  subst hb
  rw [run_equalIn_string w d t _ _ hu,beq_toListBytes]
 ·have hu:P.underlying t=some .bool:=by
   split at ht <;> simp at ht
   assumption
  cases h <;> cases h' <;> simp [eqC] at hb
  subst hb
  exact run_equalIn_bool w d t _ _ hu
 ·split at ht <;> simp at ht
theorem Zl6 {cs:List V} {xs:Array Value} (h:VR k w (.agg cs) (.agg xs)) {t:TypeId} {off:Nat} {v:V} {q:KK} (ht:Zc3 P t=some q) (hv:cs[off]?=some v) :
  ∃ y,(part t xs off).run P w=.ok y w∧VR k w v y:=by
 obtain ⟨y,hy,hr,_⟩:=h.cells.nth hv
 have hy':xs[off]?=some y:=by simpa [Value.cells] using hy
 have ha:aggT P t=some false:=by
  unfold Zc3 at ht
  unfold aggT
  split at ht <;> simp at ht <;> simp [*]
 exact ⟨y,by simp [part,Ze3 ha,hy'],hr⟩
theorem Zh6 {cs cs':List V} {xs ys:Array Value} (h:VR k w (.agg cs) (.agg xs)) (h':VR k w (.agg cs') (.agg ys)) (d:Nat) :
  ∀ {fs:List Field} {l:List (Nat × KK)} {b:Bool},eqFields P fs=some l→eqCs l cs cs'=some b→(Op.eqFields (d + 1) xs ys fs).run P w=.ok b w
 | [],l,b,hl,hb=>by
  simp [eqFields] at hl; subst hl
  simp [eqCs] at hb; subst hb
  rfl
 | f :: fs,l,b,hl,hb=>by
  simp only [eqFields] at hl
  split at hl
  ·rename_i q r hq hr
   split at hl
   ·rename_i hn
    simp only [Option.some.injEq] at hl; subst hl
    simp only [eqCs] at hb
    split at hb
    ·rename_i v v' hv hv'
     obtain ⟨y,hy,hry⟩:=Zl6 (P:=P) h hq hv
     obtain ⟨y',hy',hry'⟩:=Zl6 (P:=P) h' hq hv'
     split at hb
     ·rename_i he
      have:=Zn1 (P:=P) hry hry' he hq d
      simp only [Op.eqFields,if_pos hn,Sem.run_bind,hy,hy',this,Result.andThen_ok]
      exact Zh6 h h' d hr hb
     ·rename_i he
      have:=Zn1 (P:=P) hry hry' he hq d
      simp only [Option.some.injEq] at hb; subst hb
      simp [Op.eqFields,if_pos hn,hy,hy',this]
     ·simp at hb
    ·simp at hb
   ·simp at hl
  ·simp at hl
theorem eqKT_agg {t:TypeId} {l:List (Nat × KK)} (h:eqKT P t=some (.agg l)) :
  P.underlying t=some (.struct (P.fieldsOf t))∧P.stoodInHeld t=false∧P.eqGuardType P.depth t=false∧eqFields P (P.fieldsOf t).toList=some l:=by
 unfold eqKT at h
 split at h <;> simp at h
 rename_i fs hu
 have hf:P.fieldsOf t=fs:=by simp [Program.fieldsOf,hu]
 rw [hf]
 exact ⟨hu,h.1.1,h.1.2,h.2⟩
theorem Zwm {t:TypeId} (h:eqKT P t=some .bool):P.underlying t=some .bool:=by
 unfold eqKT at h
 split at h <;> simp at h
 assumption
theorem Znj (d:Nat) {t p q:TypeId} (hu:P.underlying t=some (.map p q)) :
  (∀ m,(Op.equalIn (d + 1) t (.map none) (.map m)).run P w=.ok m.isNone w)∧(∀ m,(Op.equalIn (d + 1) t (.map (some m)) (.map none)).run P w=.ok false w):=
 ⟨fun m=>by simp only [Op.equalIn,Sem.run_bind,Zaa hu,Result.andThen_ok,Sem.run_pure],
 fun m=>by simp only [Op.equalIn,Sem.run_bind,Zaa hu,Result.andThen_ok,Sem.run_pure]⟩
theorem Zkj (d:Nat) {t:TypeId} {ms:Array (String × TypeId)} (hu:P.underlying t=some (.interface ms)) :
  ((Op.equalIn (d + 1) t .nilIface .nilIface).run P w=.ok true w)∧(∀ p x,(Op.equalIn (d + 1) t .nilIface (.iface p x)).run P w=.ok false w)∧(∀ p x,(Op.equalIn (d + 1) t (.iface p x) .nilIface).run P w=.ok false w):=
 ⟨by simp only [Op.equalIn,Sem.run_bind,Zaa hu,Result.andThen_ok,Sem.run_pure],
 fun p x=>by simp only [Op.equalIn,Sem.run_bind,Zaa hu,Result.andThen_ok,Sem.run_pure],
 fun p x=>by simp only [Op.equalIn,Sem.run_bind,Zaa hu,Result.andThen_ok,Sem.run_pure]⟩
theorem Znz {t:TypeId} {ek:EqK} {x y:V} {X Y:Value} {b:Bool} {ox oy:Operand} (hk:eqKT P t=some ek) (hx:SR k w β A u x X) (hy:SR k w β A u y Y)
  (hn:ek=.nilI→(Zmm ox || Zmm oy)=true) (hb:eqV ek x y=some b) :
  (∀ o,(o=.eql∨o=.neq)→(eqGuard o t ox oy X Y).run P w=.ok () w) ∧
  (binOp .eql t X Y).run P w=.ok (.bool b) w∧(binOp .neq t X Y).run P w=.ok (.bool (!b)) w:=by
 cases ek with
 | plain=>simp [eqV] at hb
 | bool =>
  cases x <;> cases y <;> simp [eqV] at hb
  subst hb
  cases Zje hx; cases Zje hy
  have he:=fun a b=>run_equalIn_bool (P:=P) w 9999 t a b (Zwm hk)
  refine ⟨fun o ho=>by rcases ho with rfl | rfl <;> simp [eqGuard],?_,?_⟩
  all_goals
   simp only [binOp,Op.equal,Op.maxDepth,Sem.run_bind,Sem.run_map,he,Result.andThen_ok,Sem.run_pure]
 | agg l =>
  cases x <;> cases y <;> simp [eqV] at hb
  obtain ⟨xs,rfl,hvx⟩:=Zqr hx
  obtain ⟨ys,rfl,hvy⟩:=Zqr hy
  obtain ⟨h1,h2,h3,h4⟩:=eqKT_agg hk
  have he:=run_equalIn_struct (P:=P) w 9999 t xs ys h1 h2
  rw [Zh6 hvx hvy 9998 h4 hb] at he
  refine ⟨fun o ho=>run_eqGuard_agg w o t ox oy xs ys h3,?_,?_⟩
  all_goals
   simp only [binOp,Op.equal,Op.maxDepth,Sem.run_bind,Sem.run_map,he,Result.andThen_ok,Sem.run_pure]
 | nilM =>
  have hu:∃ a b,P.underlying t=some (.map a b):=by
   unfold eqKT at hk
   split at hk <;> simp at hk
   exact ⟨_,_,by assumption⟩
  obtain ⟨a,b',hu⟩:=hu
  obtain ⟨e1,e2⟩:=Znj (P:=P) (w:=w) 9999 hu
  cases x <;> cases y <;> simp [eqV,nils,isNilM] at hb
  all_goals
   subst hb
   cases (show VR k w _ X from hx)
   cases (show VR k w _ Y from hy)
   refine ⟨fun o ho=>by rcases ho with rfl | rfl <;> simp [eqGuard],?_,?_⟩
   all_goals
    simp only [binOp,Op.equal,Op.maxDepth,Sem.run_bind,Sem.run_map,e1,e2,Result.andThen_ok,Sem.run_pure,Option.isNone]
    try rfl
 | nilI =>
  have hu:∃ m,P.underlying t=some (.interface m):=by
   unfold eqKT at hk
   split at hk <;> simp at hk
   exact ⟨_,by assumption⟩
  obtain ⟨m,hu⟩:=hu
  obtain ⟨e1,e2,e3⟩:=Zkj (P:=P) (w:=w) 9999 hu
  have hc:=hn rfl
  have hg:∀ o,(o=.eql∨o=.neq)→(eqGuard o t ox oy .nilIface .nilIface).run P w=.ok () w:=by
   intro o ho
   rcases ho with rfl | rfl <;> cases ox <;> cases oy <;> simp [Zmm] at hc <;> simp [eqGuard]
  cases x <;> cases y <;> simp [eqV,nils,isNilI] at hb
  all_goals
   subst hb
   cases (show VR k w _ X from hx)
   cases (show VR k w _ Y from hy)
   refine ⟨fun o ho=>by first | exact hg o ho | (rcases ho with rfl | rfl <;> simp [eqGuard]),?_,?_⟩
   all_goals
    simp only [binOp,Op.equal,Op.maxDepth,Sem.run_bind,Sem.run_map,e1,e2,e3,Result.andThen_ok,Sem.run_pure]
    try rfl
theorem Zxh {op:BinOp} {t:TypeId} {ek:EqK} {x y:V} {X Y:Value} {ox oy:Operand} {v:V} (hk:eqKT P t=some ek) (hx:SR k w β A u x X) (hy:SR k w β A u y Y)
  (hn:ek=.nilI→(Zmm ox || Zmm oy)=true) (hv:binV op ek x y=some v) :
  ∃ z,(do eqGuard op t ox oy X Y; binOp op t X Y:Sem Value).run P w=.ok z w∧SR k w β A u v z:=by
 unfold binV at hv
 split at hv
 ·cases Ze1 hx; cases Ze1 hy
  obtain ⟨z,h1,h2⟩:=Zt4 (P:=P) (w:=w) (k:=k) (β:=β) (A:=A) (u:=u) (t:=t) hv
  refine ⟨z,?_,h2⟩
  have hg:∀ (i j:IntKind) (a b:Int),(eqGuard op t ox oy (.int i a) (.int j b)).run P w=.ok () w:=by
   intro i j a b; cases op <;> simp [eqGuard]
  simp only [Sem.run_bind,hg,Result.andThen_ok,h1]
 ·cases Zku hx; cases Zku hy
  obtain ⟨z,h1,h2⟩:=Zt3 (P:=P) (w:=w) (k:=k) (β:=β) (A:=A) (u:=u) (t:=t) hv
  refine ⟨z,?_,h2⟩
  have hg:∀ (a b:ByteArray),(eqGuard op t ox oy (.string a) (.string b)).run P w=.ok () w:=by
   intro a b; cases op <;> simp [eqGuard]
  simp only [Sem.run_bind,hg,Result.andThen_ok,h1]
 ·split at hv <;> first | (simp at hv; done) | skip
  ·rename_i b hb
   simp only [Option.some.injEq] at hv; subst hv
   obtain ⟨h3,h4,_⟩:=Znz hk hx hy hn hb
   exact ⟨_,by simp only [Sem.run_bind,h3 .eql (.inl rfl),Result.andThen_ok,h4],VR.sr (.bool _)⟩
  ·rename_i b hb
   simp only [Option.some.injEq] at hv; subst hv
   obtain ⟨h3,_,h4⟩:=Znz hk hx hy hn hb
   exact ⟨_,by simp only [Sem.run_bind,h3 .neq (.inr rfl),Result.andThen_ok,h4],VR.sr (.bool _)⟩
end
end Go.Ab
namespace Go.Ab
section
variable {G:List (Nat × List V)} {N:Nat × Nat} {e:Entry} {k:Ctx} {β:Nat→Nat} {A:Nat→Prop} {st:S} {a:Act} {w:World} {P:Program} {u:List Nat}
theorem Zxz {op:UnOp} {x v:V} {X:Value} (hx:SR k w β A u x X) (hv:unV op x=some v):∃ z,(Op.unary op X).run P w=.ok z w∧SR k w β A u v z:=by
 unfold unV at hv
 split at hv
 ·simp only [Option.some.injEq] at hv; subst hv
  cases Ze1 hx
  exact ⟨_,rfl,VR.sr (.int _ _)⟩
 ·cases Ze1 hx
  exact Zka (P:=P) (w:=w) hv
 ·simp only [Option.some.injEq] at hv; subst hv
  cases Zje hx
  exact ⟨_,rfl,VR.sr (.bool _)⟩
 ·simp at hv
theorem Zl8 (cs part:List V) (off j:Nat) (h:off + part.length ≤ cs.length) :
  (over cs off part)[j]?=if off ≤ j∧j < off + part.length then part[j - off]? else cs[j]?:=by
 unfold over
 rw [List.append_assoc,List.getElem?_append]
 by_cases h1:j < off
 ·rw [if_pos (by simp; omega),if_neg (by omega),List.getElem?_take,if_pos h1]
 ·rw [if_neg (by simp; omega),List.getElem?_append]
  have e1:j - (cs.take off).length=j - off:=by simp; omega
  rw [e1]
  by_cases h2:j < off + part.length
  ·rw [if_pos (by omega),if_pos ⟨by omega,h2⟩]
  ·rw [if_neg (by omega),if_neg (by omega),List.getElem?_drop]
   congr 1; omega
theorem Zce (cs part:List V) (off:Nat) (h:off + part.length ≤ cs.length):(over cs off part).length=cs.length:=by
 unfold over; simp; omega
theorem Zer (off:Nat):∀ (l:List Value) (i:Nat) (cs:Array Value) (k:Nat),
  ((l.zipIdx i).foldl (fun cs (x:Value × Nat)=>cs.setIfInBounds (off + x.2) x.1) cs).size=cs.size ∧
  ((l.zipIdx i).foldl (fun cs (x:Value × Nat)=>cs.setIfInBounds (off + x.2) x.1) cs)[k]?=if off + i ≤ k∧k < off + i + l.length∧k < cs.size then l[k - (off + i)]? else cs[k]?
 | [],i,cs,k=>by
  refine ⟨rfl,?_⟩
  rw [if_neg (by simp only [List.length_nil]; omega)]; rfl
 | x :: l,i,cs,k=>by
  obtain ⟨h1,h2⟩:=Zer off l (i + 1) (cs.setIfInBounds (off + i) x) k
  simp only [List.zipIdx_cons,List.foldl_cons]
  refine ⟨by rw [h1]; simp,?_⟩
  rw [h2]
  simp only [Array.size_setIfInBounds,Array.getElem?_setIfInBounds,List.length_cons]
  by_cases hk:off + i=k
  ·subst hk
   rw [if_neg (by omega)]
   by_cases hs:off + i < cs.size
   ·rw [if_pos rfl,if_pos hs,if_pos (by omega)]; simp
   ·rw [if_pos rfl,if_neg hs,if_neg (by omega)]
    simp [Array.getElem?_eq_none (Nat.le_of_not_lt hs)]
  ·rw [if_neg hk]
   by_cases hin:off + i ≤ k∧k < off + i + (l.length + 1)∧k < cs.size
   ·rw [if_pos hin,if_pos (by omega)]
    have:k - (off + i)=(k - (off + (i + 1))) + 1:=by omega
    rw [this,List.getElem?_cons_succ]
   ·rw [if_neg hin,if_neg (by omega)]
theorem Zf1 {hs:Hints} (h:FW G N e k β A st a w) (hG:∀ g cells,(g,cells) ∈ hs.glob→(g,cells) ∈ G) {place:Nat→Option (Nat × Nat)} :
  ∀ {ps:List (Nat × Operand)} {l:List (Nat × Nat × Arg)} {cs r:List V} {xs:Array Value},Zei hs place ps=some l→CRs k w cs xs.toList→fillV st.ρ cs l=some r →
   ∃ ys,Instr.fill place xs (ps.map fun (i,x)=>(i,a.eval x))=some ys∧CRs k w r ys.toList
 | [],l,cs,r,xs,hl,hc,hr=>by
  simp [Zei] at hl; subst hl
  simp [fillV] at hr; subst hr
  exact ⟨xs,rfl,hc⟩
 | (i,x) :: ps,l,cs,r,xs,hl,hc,hr=>by
  simp only [Zei] at hl
  split at hl
  ·rename_i off n ar tl hp ha htl
   simp only [Option.some.injEq] at hl; subst hl
   simp only [fillV] at hr
   split at hr
   ·rename_i v hv
    split at hr
    ·rename_i hle
     have hsr:=(h.arg ha hG).out hv
     obtain ⟨c1,c2⟩:=hsr.cells
     have hsize:(a.eval x).cells.size=n:=by rw [← hle.1,← c1]; simp
     have hcl:xs.size=cs.length:=by simpa using hc.1
     obtain ⟨hsz,_⟩:=Zer off (a.eval x).cells.toList 0 xs 0
     have hnew:CRs k w (over cs off v.cells) ((((a.eval x).cells.toList.zipIdx 0).foldl (fun cs (x:Value × Nat)=>cs.setIfInBounds (off + x.2) x.1) xs).toList):=by
      refine ⟨by rw [Zce _ _ _ (by omega)]; simpa using hsz.trans hcl,fun j y hj=>?_⟩
      rw [Zl8 _ _ _ _ (by omega)] at hj
      obtain ⟨_,hget⟩:=Zer off (a.eval x).cells.toList 0 xs j
      rw [Array.getElem?_toList,hget]
      split at hj
      ·rename_i hin
       rw [if_pos ⟨by omega,by simp [hsize]; omega,by omega⟩]
       simpa using c2 _ y hj
      ·rename_i hin
       rw [if_neg (by simp [hsize]; omega)]
       simpa using hc.2 _ y hj
     obtain ⟨ys,h1,h2⟩:=Zf1 h hG htl hnew hr
     refine ⟨ys,?_,h2⟩
     simp only [List.map_cons]
     unfold Instr.fill
     simp only [hp]
     rw [if_neg (by simp [hsize]; omega)]
     rw [← h1]
     congr 1
     rw [← Array.foldl_toList,Array.toList_zipIdx]
    ·simp at hr
   ·simp at hr
  ·simp at hl
theorem Zk7:∀ {vs:List V} {xs:List Value} {x r:V} {X:Value},VR k w x X→xs.length=vs.length→(∀ (j:Nat) (v:V),vs[j]?=some v→∃ y,xs[j]?=some y∧SR k w β A u v y) →
  maxV x vs=some r→∃ z,(xs.foldlM Builtin.max2 X:Sem Value).run P w=.ok z w∧VR k w r z
 | [],xs,x,r,X,hx,hl,_,hr=>by
  simp [maxV] at hr; subst hr
  have:xs=[]:=by simpa using hl
  subst this
  exact ⟨X,rfl,hx⟩
 | v :: vs,xs,x,r,X,hx,hl,hv,hr=>by
  cases xs with
  | nil=>simp at hl
  | cons y ys =>
   unfold maxV at hr
   split at hr
   ·rename_i heq; simp at heq
   ·rename_i i p j q r' heq
    simp only [List.cons.injEq] at heq
    obtain ⟨rfl,rfl⟩:=heq
    obtain ⟨y',hy',hsr⟩:=hv 0 (.int j q) (by simp)
    simp at hy'; subst hy'
    cases Ze1 hsr
    cases hx
    obtain ⟨z,hz,hrz⟩:=Zk7 (.int i (if q > p then q else p)) (by simpa using hl) (fun j v hj=>by simpa using hv (j + 1) v (by simpa using hj)) hr
    refine ⟨z,?_,hrz⟩
    simp only [List.foldlM_cons,Builtin.max2,Sem.run_bind,Sem.run_pure,Result.andThen_ok]
    exact hz
   ·simp at hr
theorem Zk6:∀ {vs:List V} {xs:List Value} {x r:V} {X:Value},VR k w x X→xs.length=vs.length→(∀ (j:Nat) (v:V),vs[j]?=some v→∃ y,xs[j]?=some y∧SR k w β A u v y) →
  minV x vs=some r→∃ z,(xs.foldlM Builtin.min2 X:Sem Value).run P w=.ok z w∧VR k w r z
 | [],xs,x,r,X,hx,hl,_,hr=>by
  simp [minV] at hr; subst hr
  have:xs=[]:=by simpa using hl
  subst this
  exact ⟨X,rfl,hx⟩
 | v :: vs,xs,x,r,X,hx,hl,hv,hr=>by
  cases xs with
  | nil=>simp at hl
  | cons y ys =>
   unfold minV at hr
   split at hr
   ·rename_i heq; simp at heq
   ·rename_i i p j q r' heq
    simp only [List.cons.injEq] at heq
    obtain ⟨rfl,rfl⟩:=heq
    obtain ⟨y',hy',hsr⟩:=hv 0 (.int j q) (by simp)
    simp at hy'; subst hy'
    cases Ze1 hsr
    cases hx
    obtain ⟨z,hz,hrz⟩:=Zk6 (.int i (if q < p then q else p)) (by simpa using hl) (fun j v hj=>by simpa using hv (j + 1) v (by simpa using hj)) hr
    refine ⟨z,?_,hrz⟩
    simp only [List.foldlM_cons,Builtin.min2,Sem.run_bind,Sem.run_pure,Result.andThen_ok]
    exact hz
   ·simp at hr
theorem Zub {xs:List V} {c c':Cap} {x:Value} (h:VR k w (.vec xs c) x) {lo hi:Nat} (hlo:lo ≤ hi) (hhi:hi ≤ xs.length) (hc:c'.shared=true) {base:Option Addr} {len cap:Nat}
  (hx:x=.slice base len cap) {el:TypeId} {sz m:Nat} (hm:hi ≤ m) (hmc:m ≤ cap) (hfull:c'=.full→m=hi) (hsz:lo=0∨∀ e ∈ xs,e.cells.length=sz) :
  VR k w (.vec ((xs.take hi).drop lo) c') (.slice (if m=lo then base else base.map (·.add (lo * sz))) (hi - lo) (m - lo)):=by
 subst hx
 cases h with
 | vecNil _ _ =>
  have:m=0:=by omega
  subst this
  have h1:hi=0:=by simpa using hhi
  subst h1
  have h2:lo=0:=by omega
  subst h2
  simp
  exact .vecNil _ hc
 | vec _ _ ad _ _ sz' val hcs hlen hcap hf hs hcell hval =>
  by_cases hml:m=lo
  ·rw [if_pos hml]
   have h1:hi=lo:=by omega
   subst h1
   have h2:(xs.take hi).drop hi=[]:=by simp
   rw [h2]
   exact .vec [] c' ad _ _ sz' val hc (by simp) (by omega) (fun _=>by omega) (by simp) (by simp) (by simp)
  ·rw [if_neg hml]
   simp only [Option.map_some]
   have hls:lo * sz=lo * sz'∨xs=[]:=by
    rcases hsz with h0 | h0
    ·subst h0; simp
    ·cases xs with
     | nil=>exact .inr rfl
     | cons e r=>exact .inl (by rw [← h0 e (by simp),hs 0 e (by simp)])
   have hls:ad.add (lo * sz)=ad.add (lo * sz'):=by
    rcases hls with h0 | h0
    ·rw [h0]
    ·subst h0
     have:lo=0:=by simp at hhi; omega
     subst this; simp
   rw [hls]
   refine .vec _ c' (ad.add (lo * sz')) _ _ sz' (fun i j=>val (lo + i) j) hc (by simp; omega) (by omega) (fun hx=>by have:=hfull hx; omega) ?_ ?_ ?_
   ·intro i e he
    rw [List.getElem?_drop] at he
    exact hs _ _ (Zbf he).1
   ·intro i e j v he hj
    rw [List.getElem?_drop] at he
    have h1:=(Zbf he).1
    have h2:=hcell _ _ _ _ h1 hj
    have e1:(ad.add (lo * sz')).add (i * sz' + j)=ad.add ((lo + i) * sz' + j):=by
     rw [Zdt,Nat.add_mul,Nat.add_assoc]
    rw [e1,Zbi]
    exact h2
   ·intro i e j v he hj
    rw [List.getElem?_drop] at he
    exact hval _ _ _ _ (Zbf he).1 hj
theorem Zlo {v:V} {d cap n:Nat} (h:Zd0 (some v) d cap=some n):∃ i m,v=.int i m∧0 ≤ m∧m ≤ cap∧n=m.toNat:=by
 unfold Zd0 at h
 split at h
 ·rename_i heq; simp at heq
 ·rename_i i m heq
  simp only [Option.some.injEq] at heq
  split at h
  ·rename_i hc
   simp only [Option.some.injEq] at h
   exact ⟨i,m,heq,hc.1,hc.2,h.symm⟩
  ·simp at h
 ·simp at h
theorem Zew {v:Option V} {d cap n:Nat} (h:Zd0 v d cap=some n) (hd:d ≤ cap):n ≤ cap:=by
 cases v with
 | none=>simp [Zd0] at h; omega
 | some v =>
  obtain ⟨i,m,_,h0,h1,rfl⟩:=Zlo h
  omega
theorem Zdd {v:V} {X:Value} {d cap n:Nat} (hx:SR k w β A u v X) (h:Zd0 (some v) d cap=some n) {y:Nat} (hy:cap ≤ y) (code:BoundsCode) :
  (Instr.sliceBound X y code).run P w=.ok n w:=by
 obtain ⟨i,m,rfl,h0,h1,rfl⟩:=Zlo h
 cases Ze1 hx
 have hc:0 ≤ m∧m ≤ (y:Int):=⟨h0,by omega⟩
 simp [Instr.sliceBound,asIntOf,hc]
def Zkg (k:Ctx) (w:World) (β:Nat→Nat) (A:Nat→Prop) (u:List Nat):Option V→Option Value→Prop
 | none,none=>True
 | some v,some x=>SR k w β A u v x
 | _,_=>False
def LowOK (P:Program) (w:World) (L:Option Value) (y n:Nat):Prop:=
 match L with
 | some v=>∀ code,(Instr.sliceBound v y code).run P w=.ok n w
 | none=>n=0
theorem lowOK {lo:Option V} {L:Option Value} (hl:Zkg k w β A u lo L) {n y:Nat} (h:Zd0 lo 0 y=some n):LowOK P w L y n:=by
 cases lo with
 | none=>cases L with
  | none=>simp [Zd0] at h; exact h.symm
  | some _=>exact hl.elim
 | some v=>cases L with
  | none=>exact hl.elim
  | some X=>exact fun code=>Zdd hl h (Nat.le_refl _) code
theorem Ze2 {t el:TypeId} {sz:Nat} (hu:P.underlying t=some (.slice el)) (hs:Zbz P el=some sz) {base:Option Addr} {len cap l h m:Nat} {L Hh M:Option Value}
  (hm:(match M with | some v=>(Instr.sliceBound v cap .slice3Acap).run P w=.ok m w | none=>m=cap))
  (hh:(match Hh,M with | some v,some _=>(Instr.sliceBound v m .slice3B).run P w=.ok h w | some v,none=>(Instr.sliceBound v m .sliceAcap).run P w=.ok h w | none,none=>h=len | none,some _=>False))
  (hl:LowOK P w L h l) :
  (Instr.sliceAt t (.slice base len cap) L Hh M).run P w=.ok (.slice (if m=l then base else base.map (·.add (l * sz))) (h - l) (m - l)) w:=by
 cases M <;> cases Hh <;> cases L <;> simp only [LowOK] at hm hh hl <;> first | exact hh.elim | skip
 all_goals
  first | (subst hm) | skip
  first | (subst hh) | skip
  first | (subst hl) | skip
  simp [Instr.sliceAt,Instr.slice,Instr.sliceBounds,Zaa hu,Za3 hs, *]
theorem slc_vec {xs:List V} {c:Cap} {v:V} {X:Value} {lo hi mx:Option V} {L Hh M:Option Value} (hx:SR k w β A u (.vec xs c) X) (hl:Zkg k w β A u lo L) (hh:Zkg k w β A u hi Hh)
  (hm:Zkg k w β A u mx M) {t el:TypeId} {sz:Nat} (hu:P.underlying t=some (.slice el)) (hs:Zbz P el=some sz) (hv:slcV (.vec xs c) lo hi mx sz=some v) :
  ∃ z,(Instr.sliceAt t X L Hh M).run P w=.ok z w∧SR k w β A u v z:=by
 have hx':=hx.vec
 obtain ⟨base,len,cap,rfl,hle,hcap,hf⟩:∃ base len cap,X=.slice base len cap∧len=xs.length∧len ≤ cap∧(c=.full→cap=len):=by
  cases hx' with
  | vecNil _ _=>exact ⟨none,0,0,rfl,rfl,Nat.le_refl _,fun _=>rfl⟩
  | vec _ _ ad len cap sz' val hc hlen hcap hf hs hcell hval=>exact ⟨some ad,len,cap,rfl,hlen,hcap,fun h=>hf (Zp4 h)⟩
 simp only [slcV] at hv
 cases mx with
 | none =>
  cases M with
  | some _=>exact hm.elim
  | none =>
   simp only at hv
   split at hv
   ·rename_i b hbd
    split at hv
    ·rename_i a' had
     split at hv
     ·rename_i hsz
      simp only [Option.some.injEq] at hv; subst hv
      have hble:=Zew hbd (Nat.le_refl _)
      have hale:=Zew had (Nat.zero_le _)
      refine ⟨_,Ze2 hu hs (m:=cap) (h:=b) (l:=a') rfl ?_ (lowOK hl had),VR.sr (Zub hx' hale hble ?_ rfl (el:=el) (m:=cap) (by omega) (Nat.le_refl _) ?_ hsz)⟩
      ·cases hi with
       | none=>cases Hh with
        | none=>simp [Zd0] at hbd; simp only []; omega
        | some _=>exact hh.elim
       | some v=>cases Hh with
        | none=>exact hh.elim
        | some X=>exact Zdd hh hbd (by omega) _
      ·split <;> rfl
      ·intro h
       split at h
       ·rename_i hc; rw [hf hc.1,hle]; exact hc.2.symm
       ·simp at h
     ·simp at hv
    ·simp at hv
   ·simp at hv
 | some m0 =>
  cases M with
  | none=>exact hm.elim
  | some M0 =>
   simp only at hv
   split at hv
   ·rename_i m hmd
    split at hv
    ·rename_i b hbd
     split at hv
     ·rename_i a' had
      split at hv
      ·rename_i hsz
       simp only [Option.some.injEq] at hv; subst hv
       have hmle:=Zew hmd (Nat.zero_le _)
       have hbd':Zd0 hi 0 m=some b:=by
        split at hbd
        ·exact hbd
        ·simp at hbd
       have hble:=Zew hbd' (Nat.zero_le _)
       have hale:=Zew had (Nat.zero_le _)
       cases hi with
       | none=>cases Hh with
        | none=>simp at hbd
        | some _=>exact hh.elim
       | some v=>cases Hh with
        | none=>exact hh.elim
        | some X =>
         refine ⟨_,Ze2 hu hs (m:=m) (h:=b) (l:=a') (Zdd hm hmd (by omega) _) (Zdd hh (by simpa using hbd) (Nat.le_refl _) _) (lowOK hl had),VR.sr (Zub hx' hale (by omega) ?_ rfl (el:=el) (m:=m) (by omega) (by omega) ?_ hsz)⟩
         ·split <;> rfl
         ·intro h
          split at h
          ·rename_i hc; exact hc.symm
          ·simp at h
      ·simp at hv
     ·simp at hv
    ·simp at hv
   ·simp at hv
theorem slc_ref {id off len z:Nat} {v:V} {X:Value} {lo hi mx:Option V} {L Hh M:Option Value} (hx:SR k w β A u (.ref id off len z) X) (hl:Zkg k w β A u lo L) (hh:Zkg k w β A u hi Hh)
  (hm:Zkg k w β A u mx M) {t el:TypeId} {sz:Nat} (hu:P.underlying t=some (.slice el)) (hs:Zbz P el=some sz) (hv:slcV (.ref id off len z) lo hi mx sz=some v) :
  ∃ y,(Instr.sliceAt t X L Hh M).run P w=.ok y w∧SR k w β A u v y:=by
 cases (show VR k w (.ref id off len z) X from hx) with
 | ref _ _ _ _ cap b hb hid hlc hcap =>
  cases mx with
  | some _=>simp [slcV] at hv
  | none =>
   cases M with
   | some _=>exact hm.elim
   | none =>
    simp only [slcV] at hv
    split at hv
    ·rename_i hz
     subst hz
     split at hv
     ·rename_i h' hbd
      split at hv
      ·rename_i a' had
       have hble:=Zew hbd (Nat.le_refl _)
       have hale:=Zew had (Nat.zero_le _)
       refine ⟨_,Ze2 hu hs (m:=cap) (h:=h') (l:=a') rfl ?_ (lowOK hl had),VR.sr ?_⟩
       ·cases hi with
        | none=>cases Hh with
         | none=>simp [Zd0] at hbd; simp only []; omega
         | some _=>exact hh.elim
        | some v=>cases Hh with
         | none=>exact hh.elim
         | some X=>exact Zdd hh hbd (by omega) _
       ·split at hv
        ·rename_i hlt
         simp only [Option.some.injEq] at hv; subst hv
         rw [if_neg (by omega)]
         simp only [Option.map_some,Zb7]
         refine .ref id _ _ _ _ b hb hid (by omega) ?_
         have:off + a' * z + (cap - a') * z=off + cap * z:=by
          rw [Nat.sub_mul]
          have:=Nat.mul_le_mul_right z (show a' ≤ cap by omega)
          omega
         rw [this]; exact hcap
        ·rename_i hlt
         simp only [Option.some.injEq] at hv; subst hv
         have h0:h' - a'=0:=by omega
         rw [h0]
         have e1:(if cap=a' then (some ⟨b,off,none⟩:Option Addr) else (some (⟨b,off,none⟩:Addr)).map (·.add (a' * z)))=some ⟨b,(if cap=a' then off else off + a' * z),none⟩:=by
          split <;> simp [Zb7]
         rw [e1]
         exact .vec [] .any _ 0 _ 0 (fun _ _=>undef) rfl rfl (by omega) (by simp) (by simp) (by simp) (by simp)
      ·simp at hv
     ·simp at hv
    ·simp at hv
theorem slc_str {s:ByteArray} {v:V} {X:Value} {lo hi mx:Option V} {L Hh M:Option Value} (hx:SR k w β A u (.str s) X) (hl:Zkg k w β A u lo L) (hh:Zkg k w β A u hi Hh)
  (hm:Zkg k w β A u mx M) {t:TypeId} (hu:P.underlying t=some .string) (hv:Zsi (.str s) lo hi mx=some v) :
  ∃ y,(Instr.sliceAt t X L Hh M).run P w=.ok y w∧SR k w β A u v y:=by
 cases Zku hx
 cases mx with
 | some _=>simp [Zsi] at hv
 | none =>
  cases M with
  | some _=>exact hm.elim
  | none =>
   simp only [Zsi] at hv
   split at hv
   ·rename_i b _ hbd
    split at hv
    ·rename_i a' had
     simp only [Option.some.injEq] at hv; subst hv
     refine ⟨.string (s.extract a' b),?_,VR.sr (.str _)⟩
     have h1:(match Hh with | some v=>∀ code,(Instr.sliceBound v s.size code).run P w=.ok b w | none=>b=s.size):=by
      cases hi with
      | none=>cases Hh with
       | none=>simp [Zd0] at hbd; exact hbd.symm
       | some _=>exact hh.elim
      | some v=>cases Hh with
       | none=>exact hh.elim
       | some X=>exact fun code=>Zdd hh hbd (Nat.le_refl _) code
     have h2:(match L with | some v=>∀ code,(Instr.sliceBound v b code).run P w=.ok a' w | none=>a'=0):=by
      cases lo with
      | none=>cases L with
       | none=>simp [Zd0] at had; exact had.symm
       | some _=>exact hl.elim
      | some v=>cases L with
       | none=>exact hl.elim
       | some X=>exact fun code=>Zdd hl had (Nat.le_refl _) code
     cases Hh <;> cases L <;> simp only [] at h1 h2
     all_goals
      first | (subst h1) | skip
      first | (subst h2) | skip
      simp [Instr.sliceAt,Instr.slice,Instr.sliceBounds,Zaa hu, *]
    ·simp at hv
   ·simp at hv
end
end Go.Ab
namespace Go.Ab
def Ctx.setLim (k:Ctx) (b L:Nat):Ctx:={ k with lim:=upd k.lim b L }
theorem Zan {α:Type} (f:Nat→α) (a:Nat) (v:α):upd f a v a=v:=by simp [upd]
theorem Zd1 {α:Type} (f:Nat→α) {a b:Nat} (v:α) (h:b ≠ a):upd f a v b=f b:=by simp [upd,h]
theorem Zb4 {w:World} {o:Obj} {b:Nat} (h:b < w.heap.size):(w.alloc o).heap[b]?=w.heap[b]?:=by
 simp only [World.alloc,Array.getElem?_push]
 rw [if_neg (by omega)]
theorem Za6 {w:World} {o:Obj}:(w.alloc o).heap[w.heap.size]?=some o:=by
 show (w.heap.push o)[w.heap.size]?=some o
 simp
theorem Keeps.alloc {k:Ctx} {w:World} (o:Obj) (L:Nat):Keeps k (k.setLim w.heap.size L) w (w.alloc o) where
 nx:=Nat.le_refl _
 om _ _:=rfl
 lim b hb:=by simp [Ctx.setLim,Zd1 _ _ (Nat.ne_of_lt hb)]
 size:=by simp
 cell a v h _:=by rw [World.cell?_alloc_lt _ _ _ (World.block_lt_of_cell? _ _ h)]; exact h
 rows b c e h:=by
  have hb:b < w.heap.size:=by
   rcases Nat.lt_or_ge b w.heap.size with h' | h'
   ·exact h'
   ·rw [Array.getElem?_eq_none h'] at h; simp at h
  exact ⟨c,by rw [Zb4 hb]; exact h,rfl⟩
theorem ORel.mono {k k':Ctx} {w w':World} {h:H} {o:O} {b:Option Obj} (hr:ORel k w h o b) (hk:Keeps k k' w w')
  (hm:∀ m es ver,m < k.nx→h.objs m=some (.map es ver)→w'.heap[k.ω m]?=w.heap[k.ω m]?):ORel k' w' h o b:=by
 cases o with
 | cells cs =>
  obtain ⟨c,e,h1,h2,h3⟩:=hr
  exact ⟨c,e,h1,h2,h3.mono hk⟩
 | map es ver =>
  obtain ⟨en,clock,h1,h2,h3,h4,h5⟩:=hr
  exact ⟨en,clock,h1,h2,fun j a v hj=>let ⟨e,p,q,r⟩:=h3 j a v hj; ⟨e,p,q.mono hk,r.mono hk⟩,h4,h5⟩
 | iter m ver seen =>
  obtain ⟨since,sb,stepped,h1,h2,h3⟩:=hr
  refine ⟨since,sb,stepped,by rw [hk.om m h2]; exact h1,Nat.lt_of_lt_of_le h2 hk.nx,fun es ver' en clock ho hw=>?_⟩
  rw [hk.om m h2,hm m _ _ h2 ho] at hw
  exact h3 es ver' en clock ho hw
section
variable {G:List (Nat × List V)} {N:Nat × Nat} {e:Entry} {k:Ctx} {β:Nat→Nat} {A:Nat→Prop} {st:S} {a:Act} {w:World} {P:Program} {u:List Nat}
theorem Stays.of {k':Ctx} {w':World} (hk:Keeps k k' w w') (hl:∀ s,A s→k'.lim (β s)=k.lim (β s)):Stays k k' w w' β β A A u u where
 keeps:=hk
 beta s h:=.inl h
 same _ _:=rfl
 used _ h:=h
 lim s h _:=hl s h
 lim0 s h h0:=⟨h,by rw [hl s h]; exact h0⟩
theorem Old.trans {h:H} {k':Ctx} {w':World} (ho:Old e k h w) (hk:Keeps k k' w w') (hl:∀ b,b < e.w.heap.size→k'.lim b=k.lim b)
  (hs:∀ b,b < e.w.heap.size→(∀ id o,e.h.objs id=some o→e.k.ω id ≠ b)→w'.heap[b]?=w.heap[b]?) {h':H}
  (hsrc:∀ (id:Nat) (o:O),h'.objs id=some o→k'.ω id < e.w.heap.size→∃ id0 o0,h.objs id0=some o0∧k.ω id0=k'.ω id)
  (hm:w'.tape=w.tape∧w'.os=w.os∧w'.output=w.output):Old e k' h' w' where
 keeps:=ho.keeps.trans hk
 lim b hb:=(hl b hb).trans (ho.lim b hb)
 same b hb hn:=(hs b hb hn).trans (ho.same b hb hn)
 src id o h1 h2:=by
  obtain ⟨id0,o0,h3,h4⟩:=hsrc id o h1 h2
  rw [← h4]
  exact ho.src id0 o0 h3 (by rw [h4]; exact h2)
 misc:=⟨hm.1.trans ho.misc.1,hm.2.1.trans ho.misc.2.1,hm.2.2.trans ho.misc.2.2⟩
theorem FW.alloc' (h:FW G N e k β A st a w) (o:Obj) (L:Nat):FW G N e (k.setLim w.heap.size L) β A st a (w.alloc o):=by
 have hk:=Keeps.alloc (k:=k) (w:=w) o L
 have hlim:∀ b,b < w.heap.size→(k.setLim w.heap.size L).lim b=k.lim b:=fun b hb=>by simp [Ctx.setLim,Zd1 _ _ (Nat.ne_of_lt hb)]
 have hst:Stays k (k.setLim w.heap.size L) w (w.alloc o) β β A A st.u st.u:=Stays.of hk (fun s hs=>hlim _ (h.alloc s hs).2.2.1)
 refine ⟨fun t=>(h.slot t).mono hst,h.size,h.defers.mono hst.keeps,fun s cs hm=>?_,fun s hs=>?_,h.ainj,h.res,⟨h.wr.nx,fun id o' ho=>?_,h.wr.inj,fun g cells hg=>(h.wr.glob g cells hg).mono hk⟩,?_⟩
 ·obtain ⟨h1,h2,c,e',h3,h4,h5⟩:=h.mem s cs hm
  have hb:=(h.alloc s h1).2.2.1
  exact ⟨h1,by rw [hlim _ hb]; exact h2,c,e',by rw [Zb4 hb]; exact h3,h4,fun j v hj=>let ⟨x,p,q,r⟩:=h5 j v hj; ⟨x,p,q.mono hst,r⟩⟩
 ·obtain ⟨h1,h2,h3,h4⟩:=h.alloc s hs
  exact ⟨h1,h2,by simp; omega,h4⟩
 ·obtain ⟨h1,h2,h3,h4⟩:=h.wr.obj id o' ho
  refine ⟨h1,by simp [Ctx.setLim]; omega,(hlim _ h2).trans h3,?_⟩
  show ORel _ _ _ _ (w.alloc o).heap[k.ω id]?
  rw [Zb4 h2]
  exact h4.mono hk (fun m es ver hm ho'=>Zb4 (h.wr.obj m _ ho').2.1)
 ·exact h.old.trans hk (fun b hb=>hlim b (Nat.lt_of_lt_of_le hb h.old.keeps.size)) (fun b hb _=>Zb4 (Nat.lt_of_lt_of_le hb h.old.keeps.size))
   (fun id o' ho _=>⟨id,o',ho,rfl⟩) ⟨rfl,rfl,rfl⟩
theorem FW.drew (h:FW G N e k β A st a w):FW G N e k β A st a { w with drawn:=w.drawn + 1 }:=by
 have hk:Keeps k k w { w with drawn:=w.drawn + 1 }:=⟨Nat.le_refl _,fun _ _=>rfl,fun _ _=>Nat.le_refl _,Nat.le_refl _,fun _ _ h _=>h,fun b c e h=>⟨c,h,rfl⟩⟩
 have hst:Stays k k w { w with drawn:=w.drawn + 1 } β β A A st.u st.u:=Stays.of hk (fun _ _=>rfl)
 refine ⟨fun t=>(h.slot t).mono hst,h.size,h.defers.mono hst.keeps,fun s cs hm=>?_,h.alloc,h.ainj,h.res,⟨h.wr.nx,fun id o' ho=>?_,h.wr.inj,fun g cells hg=>(h.wr.glob g cells hg).mono hk⟩,?_⟩
 ·obtain ⟨h1,h2,c,e',h3,h4,h5⟩:=h.mem s cs hm
  exact ⟨h1,h2,c,e',h3,h4,fun j v hj=>let ⟨x,p,q,r⟩:=h5 j v hj; ⟨x,p,q.mono hst,r⟩⟩
 ·obtain ⟨h1,h2,h3,h4⟩:=h.wr.obj id o' ho
  exact ⟨h1,h2,h3,h4.mono hk (fun m es ver hm ho'=>rfl)⟩
 ·exact h.old.trans hk (fun b hb=>rfl) (fun b hb _=>rfl) (fun id o' ho _=>⟨id,o',ho,rfl⟩) ⟨rfl,rfl,rfl⟩
theorem Zik {z:List V} {n:Nat} (hz:z.length=n) (hn:0 < n):∀ (len j:Nat) (v:V),((List.replicate len z).flatten)[j]?=some v→j < len * n∧z[j % n]?=some v
 | 0,j,v,h=>by simp at h
 | len + 1,j,v,h=>by
  simp only [List.replicate_succ,List.flatten_cons,List.getElem?_append] at h
  split at h
  ·rename_i hj
   rw [hz] at hj
   refine ⟨by rw [Nat.add_mul]; omega,?_⟩
   rw [Nat.mod_eq_of_lt hj]; exact h
  ·rename_i hj
   rw [hz] at hj h
   obtain ⟨h1,h2⟩:=Zik hz hn len (j - n) v h
   refine ⟨by rw [Nat.add_mul]; omega,?_⟩
   rw [← h2,Nat.mod_eq_sub_mod (by omega)]
theorem Zfa {α:Type} (z:List α) (len:Nat):((List.replicate len z).flatten).length=len * z.length:=by
 induction len with
 | zero=>simp
 | succ n ih=>simp only [List.replicate_succ,List.flatten_cons,List.length_append,ih,Nat.add_mul]; omega
theorem Zi3 {z:List V} {zx:Array Value} {n len:Nat} (hz:CRs k w z zx.toList) (hl:z.length=n) (hn:0 < n) :
  CRs k w ((List.replicate len z).flatten) ((Array.range (len * n)).map (zx[· % zx.size]!)).toList:=by
 have hzs:zx.size=n:=by have:=hz.1; simp at this; omega
 refine ⟨by simp [Zfa,hl],fun j v hj=>?_⟩
 obtain ⟨h1,h2⟩:=Zik hl hn len j v hj
 obtain ⟨x,hx,hr⟩:=hz.2 _ v h2
 refine ⟨x,?_,hr⟩
 have hx':zx[j % n]?=some x:=by simpa using hx
 simp only [Array.toList_map,List.getElem?_map,Array.toList_range,List.getElem?_range h1,Option.map_some,hzs]
 rw [getElem!_def,hx']
theorem Zod {ag:Bool} {sz:Nat}:∀ {n:Nat} {cs:List V} {i:Nat} {x:V},(chunk ag sz n cs)[i]?=some x→i < n∧x=mkEl ag ((cs.drop (i * sz)).take sz)
 | 0,cs,i,x,h=>by simp [chunk] at h
 | n + 1,cs,i,x,h=>by
  cases i with
  | zero=>simp [chunk] at h; exact ⟨by omega,by simp [h]⟩
  | succ i =>
   simp only [chunk,List.getElem?_cons_succ] at h
   obtain ⟨h1,h2⟩:=Zod h
   refine ⟨by omega,?_⟩
   rw [h2,List.drop_drop,Nat.add_mul,Nat.one_mul,Nat.add_comm sz]
theorem chunk_length {ag:Bool} {sz:Nat}:∀ {n:Nat} {cs:List V},(chunk ag sz n cs).length=n
 | 0,cs=>rfl
 | n + 1,cs=>by simp [chunk,chunk_length]
theorem CR.not_agg {v:V} {x:Value} (h:VR k w v x) (h1:x.oneCell'=true):∀ cs,v ≠ .agg cs:=by
 intro cs hv
 subst hv
 cases h
 simp [Value.oneCell'] at h1
theorem Zk5 {ag:Bool} {sz:Nat} {cs:List V} {xs:List Value} (h:CRs k w cs xs) (hl:cs.length=sz) (ho:oneT sz ag=true):(mkEl ag cs).cells=cs:=by
 cases ag with
 | true=>rfl
 | false =>
  simp [oneT] at ho
  subst ho
  match cs,hl with
  | [c],_ =>
   obtain ⟨x,_,hr,h1⟩:=h.2 0 c rfl
   exact V.cells_of_not (CR.not_agg hr h1)
theorem Zid {cs:List V} {ag:Bool} {sz n:Nat} {c:Cap} {b off cap:Nat} {xs:List Value} (h:CRs k w cs xs) (hl:cs.length=n * sz) (ho:oneT sz ag=true) (hc:c.shared=true)
  (hcell:∀ j x,xs[j]?=some x→w.cell? ⟨b,off + j,none⟩=some x) (hlim:off + n * sz ≤ k.lim b) (hcap:n ≤ cap) (hf:c=.full→cap=n) :
  VR k w (.vec (chunk ag sz n cs) c) (.slice (some ⟨b,off,none⟩) n cap):=by
 have hin:∀ (i j:Nat),i < n→j < sz→i * sz + j < n * sz:=by
  intro i j hi hj
  have:=Nat.mul_le_mul_right sz (show i + 1 ≤ n by omega)
  rw [Nat.add_mul,Nat.one_mul] at this
  omega
 have hsl:∀ i,i < n→((cs.drop (i * sz)).take sz).length=sz:=by
  intro i hi
  have:=Nat.mul_le_mul_right sz (show i + 1 ≤ n by omega)
  rw [Nat.add_mul,Nat.one_mul] at this
  simp; omega
 have hel:∀ (i:Nat) (x:V),(chunk ag sz n cs)[i]?=some x→i < n∧x.cells=(cs.drop (i * sz)).take sz:=by
  intro i x hx
  obtain ⟨hi,rfl⟩:=Zod hx
  exact ⟨hi,Zk5 (h.slice (i * sz) sz) (hsl i hi) ho⟩
 have hval:∀ (i:Nat) (x:V) (j:Nat) (v:V),(chunk ag sz n cs)[i]?=some x→x.cells[j]?=some v→i < n∧j < sz∧cs[i * sz + j]?=some v:=by
  intro i x j v hx hj
  obtain ⟨hi,hxc⟩:=hel i x hx
  rw [hxc] at hj
  obtain ⟨h1,h2⟩:=Zbf hj
  rw [List.getElem?_drop] at h1
  exact ⟨hi,h2,h1⟩
 refine .vec _ c ⟨b,off,none⟩ n cap sz (fun i j=>xs.getD (i * sz + j) undef) hc chunk_length.symm hcap hf ?_ ?_ ?_
 ·intro i x hx
  obtain ⟨hi,hxc⟩:=hel i x hx
  rw [hxc]; exact hsl i hi
 ·intro i x j v hx hj
  obtain ⟨hi,hjs,hv⟩:=hval i x j v hx hj
  obtain ⟨y,hy,_,h1⟩:=h.2 _ v hv
  have hg:xs.getD (i * sz + j) undef=y:=by simp [List.getD,hy]
  rw [hg,Zb7]
  refine ⟨hcell _ y hy,?_,h1⟩
  have:=hin i j hi hjs
  show off + (i * sz + j) < k.lim b
  omega
 ·intro i x j v hx hj
  obtain ⟨hi,hjs,hv⟩:=hval i x j v hx hj
  obtain ⟨y,hy,hr,h1⟩:=h.2 _ v hv
  have hg:xs.getD (i * sz + j) undef=y:=by simp [List.getD,hy]
  rw [hg]; exact hr
end
end Go.Ab
namespace Go.Ab
section
variable {G:List (Nat × List V)} {N:Nat × Nat} {e:Entry} {k:Ctx} {β:Nat→Nat} {A:Nat→Prop} {st:S} {a:Act} {w:World} {P:Program} {u:List Nat}
theorem H.mapAt_some {h:H} {id:Nat} {es:List (V × V)} {ver:Nat} (hg:h.mapAt id=some (es,ver)):h.objs id=some (.map es ver):=by
 unfold H.mapAt at hg
 split at hg
 ·rename_i es' v' hc; simp at hg; obtain ⟨rfl,rfl⟩:=hg; exact hc
 ·simp at hg
theorem Zg7 {q:KK} {t:TypeId} {v v':V} {x x':Value} {b:Bool} (h:VR k w v x) (h':VR k w v' x') (hb:eqC q v v'=some b) {d:TypeDesc} (hd:P.underlying t=some d) (hq:Zc3 P t=some q) :
  Instr.sameNow d x x'=some b:=by
 unfold Zc3 at hq
 rw [hd] at hq
 cases q <;> cases d <;> simp at hq <;> cases h <;> cases h' <;> simp [eqC] at hb
 ·obtain ⟨h1,h2⟩:=hb
  subst h1; subst h2
  simp [Instr.sameNow]
 ·subst hb; simp [Instr.sameNow]
 ·subst hb; simp [Instr.sameNow]
theorem Zhg {q:KK} {t:TypeId} (hq:Zc3 P t=some q) {v:V}:Zij q v=true:=by
 cases q with
 | r n=>unfold Zc3 at hq; split at hq <;> simp at hq
 | _=>rfl
theorem Zf0 {q:KK} {t:TypeId} {d:TypeDesc} (hd:P.underlying t=some d) (hq:Zc3 P t=some q) {key:V} {X:Value} (hk:VR k w key X) :
  ∀ {es:List (V × V)} {en:List MapEntry} {i:Nat} {r:Option (Nat × V)},en.length=es.length→(∀ (j:Nat) (a v:V),es[j]?=some (a,v)→∃ e,en[j]?=some e∧VR k w a e.key∧VR k w v e.val) →
   Zc5 q key es i=some r→∃ r',Instr.findNow d X en i=some r'∧match r,r' with
    | none,none=>True
    | some (j,v),some (j',x)=>j'=j∧i ≤ j∧j < i + es.length∧VR k w v x∧(∃ a,es[j - i]?=some (a,v))∧∃ en',en[j - i]?=some en'∧en'.val=x
    | _,_=>False
 | [],en,i,r,hl,h,hr=>by
  simp [Zc5,Zhg hq] at hr; subst hr
  have:en=[]:=by simpa using hl
  subst this
  exact ⟨none,rfl,trivial⟩
 | (a,v) :: es,en,i,r,hl,h,hr=>by
  cases en with
  | nil=>simp at hl
  | cons e0 en =>
   obtain ⟨e',he',hka,hkv⟩:=h 0 a v (by simp)
   simp at he'; subst he'
   simp only [Zc5] at hr
   split at hr
   ·rename_i hb
    simp only [Option.some.injEq] at hr; subst hr
    refine ⟨some (i,e0.val),by simp [Instr.findNow,Zg7 hk hka hb hd hq],rfl,Nat.le_refl _,by simp,hkv,⟨a,by simp⟩,e0,by simp,rfl⟩
   ·rename_i hb
    obtain ⟨r',h1,h2⟩:=Zf0 hd hq hk (en:=en) (by simpa using hl) (fun j a v hj=>by simpa using h (j + 1) a v (by simpa using hj)) hr
    refine ⟨r',by simp [Instr.findNow,Zg7 hk hka hb hd hq,h1],?_⟩
    cases r with
    | none=>cases r' with
     | none=>trivial
     | some _=>exact h2.elim
    | some jv=>cases r' with
     | none=>exact h2.elim
     | some jx =>
      obtain ⟨j,v'⟩:=jv
      obtain ⟨j',x⟩:=jx
      obtain ⟨p1,p2,p3,p4,⟨a',p5⟩,en',p6,p7⟩:=h2
      have e1:j - i=(j - (i + 1)) + 1:=by omega
      refine ⟨p1,by omega,by simp; omega,p4,⟨a',by rw [e1]; simpa using p5⟩,en',by rw [e1]; simpa using p6,p7⟩
   ·simp at hr
theorem Zbt {t:TypeId} {q:KK} (hq:Zc3 P t=some q) (em:Bool) (n:Nat) (X:Value):(Instr.checkKey em (n + 1) t X).run P w=.ok () w:=by
 unfold Zc3 at hq
 split at hq <;> simp at hq <;> rename_i hu <;> simp only [Instr.checkKey,Sem.run_bind,Zaa hu,Result.andThen_ok] <;> rfl
theorem Zni {t:TypeId} {z:V} (h:Zt6 P t=some z):∃ x,(zeroValue t).run P w=.ok x w∧VR k w z x:=by
 unfold Zt6 at h
 obtain ⟨i,hi,h⟩:=Zaf h
 obtain ⟨x,hx,h⟩:=Zaf h
 exact ⟨x,by simp [zeroValue,typeInfo,hi,hx],Zjn h⟩
theorem Zel {kt:TypeId} {d:TypeDesc} {X:Value} {l:List MapEntry} {r:Option (Nat × Value)} (hd:P.underlying kt=some d) (h:Instr.findNow d X l 0=some r) :
  (Instr.findKey kt X l).run P w=.ok r w:=by
 simp [Instr.findKey,Zaa hd,h]
theorem FW.map (h:FW G N e k β A st a w) {id:Nat} {es:List (V × V)} {ver:Nat} (hg:st.h.mapAt id=some (es,ver)) :
  ∃ en clock,w.heap[k.ω id]?=some (.map en clock)∧en.size=es.length ∧
   (∀ (j:Nat) (a v:V),es[j]?=some (a,v)→∃ e,en[j]?=some e∧VR k w a e.key∧VR k w v e.val) ∧
   (∀ (i j:Nat) (a b:MapEntry),en[i]?=some a→en[j]?=some b→i < j→a.born < b.born)∧(∀ (i:Nat) (a:MapEntry),en[i]?=some a→a.born < clock):=by
 obtain ⟨_,_,_,en,clock,h1,h2,h3,h4,h5⟩:=h.wr.obj id _ (H.mapAt_some hg)
 exact ⟨en,clock,h1,h2,h3,h4,h5⟩
theorem run_getObj_map {r:Nat} {en:Array MapEntry} {clock:Nat} (h:w.heap[r]?=some (.map en clock)):(getObj r).run P w=.ok (.map en clock) w:=by
 simp [getObj,Sem.run,h]
theorem Zs4 (h:FW G N e k β A st a w) {q:KK} {m key z v:V} {M X:Value} {ok:Bool} (hm:SR k w β A u m M) (hk:SR k w β A u key X) {t kt el:TypeId}
  (ht:P.underlying t=some (.map kt el)) (hq:Zc3 P kt=some q) (hz:Zt6 P el=some z) (hv:lkpV st.h q m key z ok=some v) :
  ∃ y,(Instr.lookup t M X ok).run P w=.ok y w∧SR k w β A u v y:=by
 obtain ⟨zx,hzr,hzv⟩:=Zni (P:=P) (w:=w) (k:=k) hz
 have hres:∀ (p:V) (x:Value) (b:Bool),VR k w p x→SR k w β A u (if ok then .tuple [p,.bool b] else p) (if ok then .tuple #[x,.bool b] else x):=by
  intro p x b hp
  cases ok with
  | false=>exact hp.sr
  | true =>
   refine ⟨#[x,.bool b],rfl,rfl,fun j v hj=>?_⟩
   match j with
   | 0=>simp at hj; subst hj; exact ⟨x,by simp,hp.sr1⟩
   | 1=>simp at hj; subst hj; exact ⟨.bool b,by simp,(VR.bool b).sr1⟩
   | j + 2=>simp at hj
 cases m with
 | nilmap =>
  cases (show VR k w .nilmap M from hm)
  simp only [lkpV,Zhg hq,if_true,Option.some.injEq] at hv; subst hv
  refine ⟨_,?_,hres z zx false hzv⟩
  have hfk:(Instr.findKey kt X []).run P w=.ok none w:=by
   unfold Instr.findKey
   unfold Zc3 at hq
   split at hq <;> simp at hq <;> rename_i hu <;> simp only [Sem.run_bind,Zaa hu,Result.andThen_ok] <;> rfl
  have e0:(#[]:Array MapEntry).toList=[]:=rfl
  simp only [Instr.lookup,Sem.run_bind,Zaa ht,Result.andThen_ok,Sem.run_pure,Zbt hq,hfk,hzr,e0]
 | map id =>
  cases (show VR k w (.map id) M from hm) with
  | map _ b hb hid =>
   subst hb
   simp only [lkpV] at hv
   split at hv
   ·rename_i es ver hg
    obtain ⟨en,clock,h1,h2,h3,_,_⟩:=h.map hg
    obtain ⟨dd,hdd⟩:∃ d,P.underlying kt=some d:=by
     unfold Zc3 at hq
     cases hu:P.underlying kt with
     | none=>simp [hu] at hq
     | some d=>exact ⟨d,rfl⟩
    have hkv:VR k w key X∨True:=.inr trivial
    split at hv
    ·rename_i j v' hf
     have hkp:VR k w key X:=by
      by_cases hp:key.plain=true
      ·rwa [SR.of_plain hp] at hk
      ·exfalso
       cases es with
       | nil=>simp [Zc5,Zhg hq] at hf
       | cons p es =>
        obtain ⟨a',v''⟩:=p
        simp only [Zc5] at hf
        have:eqC q key a'=none:=by
         cases key <;> simp [V.plain] at hp <;> cases q <;> simp [eqC]
         all_goals (cases a' <;> simp [eqC])
        rw [this] at hf; simp at hf
     obtain ⟨r',g1,g2⟩:=Zf0 hdd hq hkp (en:=en.toList) (by simpa using h2) (fun j a v hj=>by simpa using h3 j a v hj) hf
     cases r' with
     | none=>exact g2.elim
     | some jx =>
      obtain ⟨j',x⟩:=jx
      obtain ⟨_,_,_,g5,_⟩:=g2
      simp only [Option.some.injEq] at hv; subst hv
      refine ⟨_,?_,hres v' x true g5⟩
      have:=Zel (P:=P) (w:=w) hdd g1
      simp only [Instr.lookup,Sem.run_bind,Zaa ht,Result.andThen_ok,Sem.run_pure,Zbt hq,run_getObj_map h1,this]
    ·rename_i hf
     simp only [Option.some.injEq] at hv; subst hv
     refine ⟨_,?_,hres z zx false hzv⟩
     have hfk:(Instr.findKey kt X en.toList).run P w=.ok none w:=by
      by_cases hp:key.plain=true
      ·have hkp:VR k w key X:=by rwa [SR.of_plain hp] at hk
       obtain ⟨r',g1,g2⟩:=Zf0 hdd hq hkp (en:=en.toList) (by simpa using h2) (fun j a v hj=>by simpa using h3 j a v hj) hf
       cases r' with
       | some _=>exact g2.elim
       | none=>exact Zel (P:=P) (w:=w) hdd g1
      ·have hes:es=[]:=by
        cases es with
        | nil=>rfl
        | cons p es =>
         exfalso
         obtain ⟨a',v''⟩:=p
         simp only [Zc5] at hf
         have:eqC q key a'=none:=by
          cases key <;> simp [V.plain] at hp <;> cases q <;> simp [eqC]
          all_goals (cases a' <;> simp [eqC])
         rw [this] at hf; simp at hf
       subst hes
       have:en=#[]:=by simpa using h2
       subst this
       unfold Instr.findKey
       simp only [Sem.run_bind,Zaa hdd,Result.andThen_ok]
       rfl
     simp only [Instr.lookup,Sem.run_bind,Zaa ht,Result.andThen_ok,Sem.run_pure,Zbt hq,run_getObj_map h1,hfk,hzr]
    ·simp at hv
   ·simp at hv
 | _=>simp [lkpV] at hv
structure RKey (P:Program) (t:TypeId) (n:Nat):Prop where
 und:P.underlying t=some (.struct (P.fieldsOf t))
 held:P.stoodInHeld t=false
 fld:eqFields P (P.fieldsOf t).toList=some (offs 0 n)
theorem Zlc {t:TypeId} {q:KK} (h:keyT P t=some q):Zc3 P t=some q∨∃ n,q=.r n∧RKey P t n:=by
 unfold keyT at h
 split at h
 ·rename_i fs hu
  split at h
  ·rename_i hc
   simp only [Option.some.injEq] at h
   have hf:P.fieldsOf t=fs:=by simp [Program.fieldsOf,hu]
   exact .inr ⟨fs.size,h.symm,⟨by rw [hf]; exact hu,hc.1,by rw [hf]; exact hc.2⟩⟩
  ·cases h
 ·exact .inl h
def intV:V→Value
 | .int k a=>.int k a
 | _=>undef
theorem Zev:∀ {xs ys:List V} {b:Bool},Zec xs ys=some b→(∀ v ∈ xs,∃ k a,v=.int k a)∧(∀ v ∈ ys,∃ k a,v=.int k a)∧(b=true→xs=ys)
 | [],[],b,h=>⟨by simp,by simp,fun _=>rfl⟩
 | x :: xs,y :: ys,b,h=>by
  cases x <;> cases y <;> simp only [Zec,reduceCtorEq] at h
  split at h
  rotate_left
  ·cases h
  rename_i hk
  subst hk
  rw [Option.map_eq_some_iff] at h
  obtain ⟨r,h1,rfl⟩:=h
  obtain ⟨p1,p2,p3⟩:=Zev h1
  refine ⟨fun v hv=>?_,fun v hv=>?_,fun hb=>?_⟩
  ·rcases List.mem_cons.1 hv with rfl | hv
   ·exact ⟨_,_,rfl⟩
   ·exact p1 v hv
  ·rcases List.mem_cons.1 hv with rfl | hv
   ·exact ⟨_,_,rfl⟩
   ·exact p2 v hv
  ·simp only [Bool.and_eq_true,beq_iff_eq] at hb
   rw [hb.1,p3 hb.2]
 | [],_ :: _,b,h=>by simp [Zec] at h
 | _ :: _,[],b,h=>by simp [Zec] at h
theorem Zq9 {cs:List V} (hi:∀ v ∈ cs,∃ k a,v=.int k a) {X:Value} (h:VR k w (.agg cs) X):X=.agg (cs.map intV).toArray:=by
 cases h with
 | agg _ xs val hs hx hv =>
  congr 1
  apply Array.ext
  ·simp [hs]
  ·intro j h1 h2
   have hj:j < cs.length:=by omega
   obtain ⟨q1,_⟩:=hx j _ (List.getElem?_eq_getElem hj)
   have q2:=hv j _ (List.getElem?_eq_getElem hj)
   obtain ⟨k',a,e⟩:=hi _ (List.getElem_mem hj)
   rw [e] at q2
   generalize hval:val j=z at q1 q2
   cases q2
   have:xs[j]=.int k' a:=by
    have:=(Array.getElem?_eq_some_iff.1 q1).2
    exact this
   rw [this]
   simp [e,intV]
theorem Zn0:∀ {n m:Nat} {xs ys:List V} {b:Bool},Zec (xs.drop m) (ys.drop m)=some b→xs.length=m + n→ys.length=m + n→eqCs (offs m n) xs ys=some b
 | 0,m,xs,ys,b,h,hx,hy=>by
  rw [List.drop_of_length_le (by omega),List.drop_of_length_le (by omega)] at h
  simp [Zec] at h; subst h; rfl
 | n + 1,m,xs,ys,b,h,hx,hy=>by
  have h1:m < xs.length:=by omega
  have h2:m < ys.length:=by omega
  rw [List.drop_eq_getElem_cons h1,List.drop_eq_getElem_cons h2] at h
  simp only [offs,eqCs,List.getElem?_eq_getElem h1,List.getElem?_eq_getElem h2]
  generalize xs[m]=x at h ⊢
  generalize ys[m]=y at h ⊢
  cases x <;> cases y <;> simp only [Zec,reduceCtorEq] at h
  split at h
  rotate_left
  ·cases h
  rename_i k0 a _ c hk
  subst hk
  rw [Option.map_eq_some_iff] at h
  obtain ⟨r,h3,rfl⟩:=h
  have ih:=Zn0 (n:=n) h3 (by omega) (by omega)
  simp only [eqC,if_true]
  cases hac:(a == c)
  ·simp
  ·simp [ih]
theorem Zhq {t:TypeId} {n:Nat} (hr:RKey P t n) {cs:List V} {X:Value} (hlen:cs.length=n) (h:VR k w (.agg cs) X) (em:Bool) (d:Nat):(Instr.checkKey em (d + 2) t X).run P w=.ok () w:=by
 obtain ⟨xs,rfl⟩:∃ xs,X=.agg xs:=by cases h; exact ⟨_,rfl⟩
 have hf:=hr.fld
 rw [Instr.checkKey]
 simp only [Sem.run_bind,Zaa hr.und,Result.andThen_ok]
 rw [← Array.forIn_toList]
 have hle:0 + n ≤ cs.length:=by omega
 generalize (P.fieldsOf t).toList=fs at hf ⊢
 generalize 0=m' at hf hle
 clear hlen hr
 revert hf hle
 generalize n=n'
 induction fs generalizing n' m' with
 | nil=>intro _ _; simp
 | cons f fs ih =>
  intro hl hle
  simp only [eqFields] at hl
  split at hl
  ·rename_i q r hq hr
   split at hl
   ·rename_i hn
    cases n' with
    | zero=>simp [offs] at hl
    | succ n' =>
     simp only [offs,Option.some.injEq,List.cons.injEq,Prod.mk.injEq] at hl
     obtain ⟨⟨h1,rfl⟩,rfl⟩:=hl
     have ho:f.offset < cs.length:=by omega
     obtain ⟨y,hy,hry⟩:=Zl6 (P:=P) h hq (List.getElem?_eq_getElem ho)
     have hck:=Zbt (P:=P) (w:=w) hq em d y
     simp only [List.forIn_cons,Sem.run_bind,if_pos hn,hy,Result.andThen_ok,hck,Sem.run_pure]
     exact ih _ _ (by rw [hr,← h1]) (by omega)
   ·simp at hl
  ·simp at hl
theorem Zli {t:TypeId} {n:Nat} (hr:RKey P t n) {cs ds:List V} {X Y:Value} {b:Bool} (h:VR k w (.agg cs) X) (h':VR k w (.agg ds) Y) (h1:cs.length=n) (h2:ds.length=n) (hb:Zec cs ds=some b):(Op.equal t X Y).run P w=.ok b w:=by
 obtain ⟨xs,rfl⟩:∃ xs,X=.agg xs:=by cases h; exact ⟨_,rfl⟩
 obtain ⟨ys,rfl⟩:∃ ys,Y=.agg ys:=by cases h'; exact ⟨_,rfl⟩
 have he:=run_equalIn_struct (P:=P) w 9999 t xs ys hr.und hr.held
 rw [Zh6 h h' 9998 hr.fld (Zn0 (m:=0) (n:=n) hb (by omega) (by omega))] at he
 simp only [Op.equal,Op.maxDepth,he]
theorem Zwn {n:Nat} {key a:V} {b:Bool} (h:eqC (.r n) key a=some b):∃ cs ds,key=.agg cs∧a=.agg ds∧cs.length=n∧ds.length=n∧Zec cs ds=some b:=by
 cases key <;> cases a <;> simp [eqC] at h
 exact ⟨_,_,rfl,rfl,h.1.1,h.1.2,h.2⟩
theorem Zq6 {n:Nat} {key:V} (h:Zij (.r n) key=true):∃ cs,key=.agg cs∧cs.length=n∧∀ v ∈ cs,∃ k a,v=.int k a:=by
 unfold Zij at h
 rw [Option.isSome_iff_exists] at h
 obtain ⟨b,hb⟩:=h
 obtain ⟨cs,ds,rfl,h2,h3,_,h5⟩:=Zwn hb
 exact ⟨cs,rfl,h3,(Zev h5).1⟩
theorem Zhk {q:KK} {key:V}:∀ {es:List (V × V)} {i:Nat} {r:Option (Nat × V)},Zc5 q key es i=some r→Zij q key=true
 | [],i,r,h=>by
  simp only [Zc5] at h
  split at h
  ·assumption
  ·cases h
 | (a,v) :: es,i,r,h=>by
  cases q with
  | r n =>
   simp only [Zc5] at h
   split at h
   ·rename_i hb
    obtain ⟨cs,ds,rfl,_,h1,_,h3⟩:=Zwn hb
    have hi:=(Zev h3).1
    have:∃ b,Zec cs cs=some b:=by
     clear h hb h3 h1
     induction cs with
     | nil=>exact ⟨true,rfl⟩
     | cons c cs ih =>
      obtain ⟨k,a,rfl⟩:=hi c List.mem_cons_self
      obtain ⟨b,hb⟩:=ih fun v hv=>hi v (List.mem_cons_of_mem _ hv)
      exact ⟨true && b,by simp [Zec,hb]⟩
    obtain ⟨b,hb⟩:=this
    simp [Zij,eqC,h1,hb]
   ·exact Zhk h
   ·cases h
  | i=>rfl
  | s=>rfl
  | b=>rfl
theorem Zhj {n:Nat} {t:TypeId} (hr:RKey P t n) {key:V} {X:Value} (hk:VR k w key X) :
  ∀ {es:List (V × V)} {en:List MapEntry} {i:Nat} {r:Option (Nat × V)},en.length=es.length→(∀ (j:Nat) (a v:V),es[j]?=some (a,v)→∃ e,en[j]?=some e∧VR k w a e.key∧VR k w v e.val) →
   Zc5 (.r n) key es i=some r→∃ r',(Instr.findAsking t X en i).run P w=.ok r' w∧match r,r' with
    | none,none=>True
    | some (j,v),some (j',x)=>j'=j∧i ≤ j∧j < i + es.length∧VR k w v x∧(∃ a,es[j - i]?=some (a,v))∧∃ en',en[j - i]?=some en'∧en'.val=x
    | _,_=>False
 | [],en,i,r,hl,h,hf=>by
  simp only [Zc5] at hf
  split at hf
  ·simp only [Option.some.injEq] at hf; subst hf
   have:en=[]:=by simpa using hl
   subst this
   exact ⟨none,rfl,trivial⟩
  ·cases hf
 | (a,v) :: es,en,i,r,hl,h,hf=>by
  cases en with
  | nil=>simp at hl
  | cons e0 en =>
   obtain ⟨e',he',hka,hkv⟩:=h 0 a v (by simp)
   simp at he'; subst he'
   simp only [Zc5] at hf
   split at hf
   ·rename_i hb
    obtain ⟨cs,ds,rfl,rfl,h1,h2,h3⟩:=Zwn hb
    have he:=Zli (P:=P) hr hk hka h1 h2 h3
    simp only [Option.some.injEq] at hf; subst hf
    refine ⟨some (i,e0.val),?_,rfl,Nat.le_refl _,by simp,hkv,⟨.agg ds,by simp⟩,e0,by simp,rfl⟩
    simp only [Instr.findAsking,Sem.run_bind,he,Result.andThen_ok,if_true,Sem.run_pure]
   ·rename_i hb
    obtain ⟨cs,ds,rfl,rfl,h1,h2,h3⟩:=Zwn hb
    have he:=Zli (P:=P) hr hk hka h1 h2 h3
    obtain ⟨r',g1,g2⟩:=Zhj hr hk (en:=en) (by simpa using hl) (fun j a v hj=>by simpa using h (j + 1) a v (by simpa using hj)) hf
    refine ⟨r',by simp only [Instr.findAsking,Sem.run_bind,he,Result.andThen_ok,Bool.false_eq_true,if_false,g1],?_⟩
    cases r with
    | none=>cases r' with
     | none=>trivial
     | some _=>exact g2.elim
    | some jv=>cases r' with
     | none=>exact g2.elim
     | some jx =>
      obtain ⟨j,v'⟩:=jv
      obtain ⟨j',x⟩:=jx
      obtain ⟨p1,p2,p3,p4,⟨a',p5⟩,en',p6,p7⟩:=g2
      have e1:j - i=(j - (i + 1)) + 1:=by omega
      refine ⟨p1,by omega,by simp; omega,p4,⟨a',by rw [e1]; simpa using p5⟩,en',by rw [e1]; simpa using p6,p7⟩
   ·simp at hf
theorem Zdr {n:Nat} {t:TypeId} (hr:RKey P t n) {X:Value} {en:List MapEntry} {r':Option (Nat × Value)} (h:(Instr.findAsking t X en 0).run P w=.ok r' w):(Instr.findKey t X en).run P w=.ok r' w:=by
 unfold Instr.findKey
 simp only [Sem.run_bind,Zaa hr.und,Result.andThen_ok]
 cases en with
 | nil=>exact h
 | cons e en=>exact h
theorem Zvw (h:FW G N e k β A st a w) {q:KK} {m key z v:V} {M X:Value} {ok:Bool} (hm:SR k w β A u m M) (hk:SR k w β A u key X) {t kt el:TypeId}
  (ht:P.underlying t=some (.map kt el)) (hq:keyT P kt=some q) (hz:Zt6 P el=some z) (hv:lkpV st.h q m key z ok=some v) :
  ∃ y,(Instr.lookup t M X ok).run P w=.ok y w∧SR k w β A u v y:=by
 rcases Zlc hq with hq | ⟨n,rfl,hr⟩
 ·exact Zs4 h hm hk ht hq hz hv
 obtain ⟨zx,hzr,hzv⟩:=Zni (P:=P) (w:=w) (k:=k) hz
 have hres:∀ (p:V) (x:Value) (b:Bool),VR k w p x→SR k w β A u (if ok then .tuple [p,.bool b] else p) (if ok then .tuple #[x,.bool b] else x):=by
  intro p x b hp
  cases ok with
  | false=>exact hp.sr
  | true =>
   refine ⟨#[x,.bool b],rfl,rfl,fun j v hj=>?_⟩
   match j with
   | 0=>simp at hj; subst hj; exact ⟨x,by simp,hp.sr1⟩
   | 1=>simp at hj; subst hj; exact ⟨.bool b,by simp,(VR.bool b).sr1⟩
   | j + 2=>simp at hj
 have hkey:Zij (.r n) key=true→VR k w key X∧∀ em d,(Instr.checkKey em (d + 2) kt X).run P w=.ok () w:=fun hf=>by
  obtain ⟨cs,rfl,h1,_⟩:=Zq6 hf
  have hk:VR k w (.agg cs) X:=hk
  exact ⟨hk,fun em d=>Zhq hr h1 hk em d⟩
 cases m with
 | nilmap =>
  cases (show VR k w .nilmap M from hm)
  simp only [lkpV] at hv
  split at hv
  ·rename_i hf
   obtain ⟨hkv,hck⟩:=hkey hf
   simp only [Option.some.injEq] at hv; subst hv
   refine ⟨_,?_,hres z zx false hzv⟩
   have hfk:(Instr.findKey kt X []).run P w=.ok none w:=Zdr hr rfl
   have e0:(#[]:Array MapEntry).toList=[]:=rfl
   simp only [Instr.lookup,Sem.run_bind,Zaa ht,Result.andThen_ok,Sem.run_pure,hck,hfk,hzr,e0]
  ·cases hv
 | map id =>
  cases (show VR k w (.map id) M from hm) with
  | map _ b hb hid =>
   subst hb
   simp only [lkpV] at hv
   split at hv
   ·rename_i es ver hg
    obtain ⟨en,clock,h1,h2,h3,_,_⟩:=h.map hg
    split at hv
    ·rename_i j v' hf
     obtain ⟨hkv,hck⟩:=hkey (Zhk hf)
     obtain ⟨r',g1,g2⟩:=Zhj (P:=P) hr hkv (en:=en.toList) (by simpa using h2) (fun j a v hj=>by simpa using h3 j a v hj) hf
     cases r' with
     | none=>exact g2.elim
     | some jx =>
      obtain ⟨j',x⟩:=jx
      obtain ⟨_,_,_,g5,_⟩:=g2
      simp only [Option.some.injEq] at hv; subst hv
      refine ⟨_,?_,hres v' x true g5⟩
      have:=Zdr hr g1
      simp only [Instr.lookup,Sem.run_bind,Zaa ht,Result.andThen_ok,Sem.run_pure,hck,run_getObj_map h1,this]
    ·rename_i hf
     obtain ⟨hkv,hck⟩:=hkey (Zhk hf)
     simp only [Option.some.injEq] at hv; subst hv
     refine ⟨_,?_,hres z zx false hzv⟩
     obtain ⟨r',g1,g2⟩:=Zhj (P:=P) hr hkv (en:=en.toList) (by simpa using h2) (fun j a v hj=>by simpa using h3 j a v hj) hf
     cases r' with
     | some _=>exact g2.elim
     | none =>
      have:=Zdr hr g1
      simp only [Instr.lookup,Sem.run_bind,Zaa ht,Result.andThen_ok,Sem.run_pure,hck,run_getObj_map h1,this,hzr]
    ·simp at hv
   ·simp at hv
 | _=>simp [lkpV] at hv
theorem Zcb {t:TypeId} {z:List V} (h:Zdv P t=some z):∃ x,(zeroValue t).run P w=.ok x w∧CRs k w z x.cells.toList:=by
 unfold Zdv at h
 obtain ⟨i,hi,h⟩:=Zaf h
 obtain ⟨x,hx,h⟩:=Zaf h
 exact ⟨x,by simp [zeroValue,typeInfo,hi,hx],Ze6 h⟩
def ZT (P:Program) (t:TypeId) (z:List V):Prop:=∃ z0,Zdv P t=some z0∧(z=z0∨z=z0.map V.weak)
theorem ZT.of {t:TypeId} {z:List V} (h:Zdv P t=some z):ZT P t z:=⟨z,h,.inl rfl⟩
theorem ZT.wk {t:TypeId} {z:List V} (h:Zdv P t=some z):ZT P t (z.map V.weak):=⟨z,h,.inr rfl⟩
theorem ZT.wz {t:TypeId} {z:List V} {hs:Hints} {d:Option Nat} (h:Zdv P t=some z):ZT P t (weakZ hs d z):=by
 unfold weakZ
 split
 ·exact .of h
 ·exact .wk h
theorem ZT.sound {t:TypeId} {z:List V} (h:ZT P t z):∃ x,(zeroValue t).run P w=.ok x w∧CRs k w z x.cells.toList:=by
 obtain ⟨z0,h0,h1⟩:=h
 obtain ⟨x,h2,h3⟩:=Zcb (P:=P) (w:=w) (k:=k) h0
 rcases h1 with rfl | rfl
 ·exact ⟨x,h2,h3⟩
 ·exact ⟨x,h2,h3.weak⟩
theorem Zgd {hs:Hints} (h:FW G N e k β A st a w) (hG:∀ g cells,(g,cells) ∈ hs.glob→(g,cells) ∈ G) {t el:TypeId} {len n:Nat} {z cs:List V} {ps:List (Nat × Operand)} {l:List (Nat × Nat × Arg)}
  (ht:P.underlying t=some (.slice el)) (hn:Zbz P el=some n) (hz:ZT P el z) (hl:Zei hs (fun i=>some (i * n,n)) ps=some l)
  (hle:len * n ≤ 16777216) (h0:0 < n) (hzl:z.length=n) (hf:fillV st.ρ ((List.replicate len z).flatten) l=some cs) :
  ∃ ys:Array Value,(Instr.buildSlice t len ((ps.map fun (i,x)=>(i,a.eval x)).toArray)).run P w=.ok (.slice (some ⟨w.heap.size,0,none⟩) len len) (w.alloc (.cells ys el))∧CRs k w cs ys.toList∧cs.length=len * n:=by
 obtain ⟨zx,hzr,hzc⟩:=ZT.sound (P:=P) (w:=w) (k:=k) hz
 have hzs:=Zi3 (len:=len) hzc hzl h0
 obtain ⟨ys,g1,g2⟩:=Zf1 h hG hl hzs hf
 have hfl:∀ (l:List (Nat × Nat × Arg)) (cs r:List V),fillV st.ρ cs l=some r→r.length=cs.length:=by
  intro l
  induction l with
  | nil=>intro cs r hr; simp [fillV] at hr; rw [hr]
  | cons p l ih =>
   intro cs r hr
   obtain ⟨off,m,x⟩:=p
   simp only [fillV] at hr
   split at hr
   ·split at hr
    ·rename_i hle
     rw [ih _ _ hr,Zce _ _ _ (by omega)]
    ·simp at hr
   ·simp at hr
 refine ⟨ys,?_,g2,by rw [hfl _ _ _ hf,Zfa,hzl]⟩
 have hnz:¬ (len * n > 2 ^ 24):=by omega
 have hmap:((ps.map fun (i,x)=>(i,a.eval x)).toArray).toList=ps.map fun (i,x)=>(i,a.eval x):=by simp
 by_cases hlz:len * n=0
 ·have e1:((Array.range (len * n)).map (zx.cells[· % zx.cells.size]!))=#[]:=by rw [hlz]; simp
  rw [e1] at g1
  have e2:∀ zz:Array Value,((Array.range (len * n)).map (zz[· % zz.size]!))=#[]:=by intro zz; rw [hlz]; simp
  simp only [Instr.buildSlice,Sem.run_bind,Zaa ht,Result.andThen_ok,Za3 hn,if_neg hnz,if_pos hlz,Sem.run_pure,e2,hmap,g1,newRow,run_newObj]
  rfl
 ·simp only [Instr.buildSlice,Sem.run_bind,Zaa ht,Result.andThen_ok,Za3 hn,if_neg hnz,if_neg hlz,hzr,Sem.run_pure,hmap,g1,newRow,run_newObj]
  rfl
end
end Go.Ab
namespace Go.Ab
section
variable {G:List (Nat × List V)} {N:Nat × Nat} {e:Entry} {k:Ctx} {β:Nat→Nat} {A:Nat→Prop} {st:S} {a:Act} {w:World} {P:Program} {u:List Nat} {hs:Hints}
theorem Zio:∀ {xs:List V} {bs:List UInt8},Zfk xs=some bs→∃ ns:List Int,xs=ns.map (V.int .u8)∧bs=ns.map fun n=>UInt8.ofNat n.toNat
 | [],bs,h=>by simp [Zfk] at h; subst h; exact ⟨[],rfl,rfl⟩
 | x :: r,bs,h=>by
  unfold Zfk at h
  split at h
  ·rename_i h1; cases h1
  ·rename_i n r' h1
   cases h1
   split at h
   ·rename_i l hl
    cases h
    obtain ⟨ns,h2,h3⟩:=Zio hl
    exact ⟨n :: ns,by rw [h2]; rfl,by rw [h3]; rfl⟩
   ·cases h
  ·cases h
theorem Zld:∀ (ns:List Int) (s:ByteArray),ns.foldl (fun r n=>r.push (UInt8.ofNat n.toNat)) s=⟨(s.data.toList ++ ns.map fun n=>UInt8.ofNat n.toNat).toArray⟩
 | [],s=>by simp
 | n :: ns,s=>by
  rw [List.foldl_cons,Zld ns]
  congr 1
  simp [ByteArray.push]
theorem Zxf {ns:List Int} {c:Cap} {X:Value} (h:VR k w (.vec (ns.map (V.int .u8)) c) X) :
  (Conv.bytesToString X).run P w=.ok (.string ⟨(ns.map fun n=>UInt8.ofNat n.toNat).toArray⟩) w:=by
 generalize hxs:ns.map (V.int .u8)=xs at h
 cases h with
 | vecNil =>
  have:ns=[]:=by simpa using hxs
  subst this
  rfl
 | vec _ _ ad len cap sz val hc hlen hcap hfull hsz hcell hval =>
  subst hxs
  have hl:len=ns.length:=by rw [hlen,List.length_map]
  subst hl
  have hrun:=run_loadCells_list (P:=P) w ad (ns.map (Value.int .u8)) (fun j y hj=>?_)
  ·rw [List.length_map] at hrun
   rw [run_bytesToString w ad ns.length cap ns hrun,Zld]
   simp
  ·rw [List.getElem?_map,Option.map_eq_some_iff] at hj
   obtain ⟨n,hn,rfl⟩:=hj
   have hx:(ns.map (V.int .u8))[j]?=some (.int .u8 n):=by rw [List.getElem?_map,hn]; rfl
   have h1:=hsz j _ hx
   have hs1:sz=1:=h1.symm
   subst hs1
   obtain ⟨c1,_,_⟩:=hcell j _ 0 (.int .u8 n) hx rfl
   have c2:=hval j _ 0 (.int .u8 n) hx rfl
   have vint:∀ {X:Value},VR k w (.int .u8 n) X→X=.int .u8 n:=by intro X h; cases h; rfl
   rw [vint c2] at c1
   simpa using c1
theorem Zba {s:Sem Value} {x:Value} {w':World} (h:s.run P w=.ok x w'):(do pure (Next.value (← s)):Sem Next).run P w=.ok (.value x) w':=by
 simp only [Sem.run_bind,h,Result.andThen_ok,Sem.run_pure]
theorem FW.opt (h:FW G N e k β A st a w) (hG:∀ g cells,(g,cells) ∈ hs.glob→(g,cells) ∈ G) {x:Option Operand} {y:Option Arg} (ht:Zlx hs x=some y) :
  Zkg k w β A st.u (y.map (evA st.ρ)) (x.map a.eval):=by
 cases x with
 | none=>simp [Zlx] at ht; subst ht; trivial
 | some x =>
  simp only [Zlx,Option.map_eq_some_iff] at ht
  obtain ⟨y',hy,rfl⟩:=ht
  exact h.arg hy hG
theorem Ze5 (h:FW G N e k β A st a w) (hG:∀ g cells,(g,cells) ∈ hs.glob→(g,cells) ∈ G):∀ {os:List Operand} {xs:List Arg} {vs:List V},Zbs hs os=some xs→outs (xs.map (evA st.ρ))=some vs →
  (os.map a.eval).length=vs.length∧∀ (j:Nat) (v:V),vs[j]?=some v→∃ x,(os.map a.eval)[j]?=some x∧VR k w v x
 | [],xs,vs,ht,ho=>by
  simp [Zbs] at ht; subst ht
  simp [outs] at ho; subst ho
  simp
 | o :: os,xs,vs,ht,ho=>by
  simp only [Zbs] at ht
  split at ht
  ·rename_i p q hp hq
   simp only [Option.some.injEq] at ht; subst ht
   simp only [List.map_cons,outs] at ho
   split at ho
   ·rename_i v vs' hv hvs
    simp only [Option.some.injEq] at ho; subst ho
    obtain ⟨h1,h2⟩:=Ze5 h hG hq hvs
    refine ⟨by simpa using h1,fun j v hj=>?_⟩
    cases j with
    | zero=>simp at hj; subst hj; exact ⟨a.eval o,by simp,(h.arg hp hG).out hv⟩
    | succ j=>simpa using h2 j v (by simpa using hj)
   ·simp at ho
  ·simp at ht
theorem Zom (h:FW G N e k β A st a w) (hG:∀ g cells,(g,cells) ∈ hs.glob→(g,cells) ∈ G) {os:List Operand} {xs:List Arg} (ht:Zbs hs os=some xs) :
  (os.map a.eval).length=(xs.map (evA st.ρ)).length∧∀ (j:Nat) (v:V),(xs.map (evA st.ρ))[j]?=some v→∃ y,(os.map a.eval)[j]?=some y∧SR k w β A st.u v y:=by
 obtain ⟨h1,h2⟩:=h.args hG ht
 refine ⟨by simp [h1],fun j v hj=>?_⟩
 simp only [List.getElem?_map,Option.map_eq_some_iff] at hj
 obtain ⟨x,hx,rfl⟩:=hj
 obtain ⟨o,ho,hr⟩:=h2 j x hx
 exact ⟨a.eval o,by simp [ho],hr⟩
theorem Zs3 {x r:V} {vs:List V} (h:maxV x vs=some r) (hne:vs ≠ []):∃ i n,x=.int i n:=by
 cases vs with
 | nil=>exact absurd rfl hne
 | cons v vs =>
  unfold maxV at h
  split at h <;> simp_all
theorem Zs2 {x r:V} {vs:List V} (h:minV x vs=some r) (hne:vs ≠ []):∃ i n,x=.int i n:=by
 cases vs with
 | nil=>exact absurd rfl hne
 | cons v vs =>
  unfold minV at h
  split at h <;> simp_all
def Reads (P:Program) (G:List (Nat × List V)) (N:Nat × Nat) (e:Entry) (β:Nat→Nat) (A:Nat→Prop) (st:S) (a:Act) (w:World) (o:Oper) (v:V):Prop:=
 ∃ x w' k',(execOp a.eval o).run P w=.ok (.value x) w'∧FW G N e k' β A st a w'∧SR k' w' β A st.u v x
theorem FW.reads (h:FW G N e k β A st a w) {o:Oper} {v:V} {s:Sem Value} (hs:execOp a.eval o=(do pure (Next.value (← s)))) (hr:∃ x,s.run P w=.ok x w∧SR k w β A st.u v x) :
  Reads P G N e β A st a w o v:=by
 obtain ⟨x,h1,h2⟩:=hr
 exact ⟨x,w,k,by rw [hs]; exact Zba h1,h,h2⟩
theorem Zkr {os:List Operand} {x:Arg} (h:Zbs hs os=some [x]):∃ o,os=[o]∧Zav hs o=some x:=by
 match os,h with
 | [],h=>simp [Zbs] at h
 | [o],h =>
  simp only [Zbs] at h
  split at h
  ·rename_i p q hp hq
   simp at hq; subst hq
   simp at h; subst h
   exact ⟨o,rfl,hp⟩
  ·simp at h
 | o1 :: o2 :: r,h =>
  simp only [Zbs] at h
  split at h
  ·rename_i p q hp hq
   split at hq
   ·simp at hq; subst hq; simp at h
   ·simp at hq
  ·simp at h
theorem Zkq {os:List Operand} {x y:Arg} (h:Zbs hs os=some [x,y]):∃ o p,os=[o,p]∧Zav hs o=some x∧Zav hs p=some y:=by
 match os,h with
 | [],h=>simp [Zbs] at h
 | o :: os,h =>
  simp only [Zbs] at h
  split at h
  ·rename_i p q hp hq
   simp at h
   obtain ⟨h1,h2⟩:=h
   subst h1; subst h2
   obtain ⟨o',rfl,ho'⟩:=Zkr hq
   exact ⟨o,o',rfl,hp,ho'⟩
  ·simp at h
theorem Zna {os:List Operand} {x y z:Arg} (h:Zbs hs os=some [x,y,z]):∃ o p q,os=[o,p,q]∧Zav hs o=some x∧Zav hs p=some y∧Zav hs q=some z:=by
 match os,h with
 | [],h=>simp [Zbs] at h
 | o :: os,h =>
  simp only [Zbs] at h
  split at h
  ·rename_i p q hp hq
   simp at h
   obtain ⟨h1,h2⟩:=h
   subst h1; subst h2
   obtain ⟨o',p',rfl,ho',hp'⟩:=Zkq hq
   exact ⟨o,o',p',rfl,hp,ho',hp'⟩
  ·simp at h
theorem Zua {i:IntKind} {n:Int} {X:Value} (h:VR k w (.int i n) X):X=.int i n:=by cases h; rfl
theorem Ztg {fn : Func} (h : fn.name = "math/bits.Add64") : Extern.find fn = some add64Entry := by
 unfold Extern.find
 simp only [h]
 rw [show Extern.allGenericRows.lookup "math/bits.Add64" = none from by kernel_rfl, show Extern.allTypedRows.lookup "math/bits.Add64" = none from by kernel_rfl, show Extern.allRows.lookup "math/bits.Add64" = some add64Entry from by kernel_rfl]
 rfl
theorem Zkm {fn : Func} (h : fn.name = "math/bits.Add64") (h2 : fn.origin = "") : Extern.findNext fn = none := by
 unfold Extern.findNext
 simp only [h,h2]
 rw [show Extern.allNextRows.lookup "math/bits.Add64" = none from by kernel_rfl, show Extern.allNextRows.lookup "" = none from by kernel_rfl]
 rfl
theorem rd_call (h:FW G N e k β A st a w) (hG:∀ g cells,(g,cells) ∈ hs.glob→(g,cells) ∈ G) {o:Oper} {c:Call} (hop:o.op=.call c) {kk:K} (ht:Zkp P hs o.dst c=some kk) {v:V} (hv:rd st kk=some v) :
  Reads P G N e β A st a w o v:=by
 unfold Zkp at ht
 obtain ⟨args,hargs,ht⟩:=Zaf ht
 obtain ⟨callee,cargs,ctypes⟩:=c
 simp only at ht hargs
 split at ht
 ·rename_i fid _
  obtain ⟨fn,hfn,ht⟩:=Zaf ht
  split at ht
  ·simp only [Option.some.injEq] at ht; subst ht; simp [rd] at hv
  ·split at ht
   ·rename_i hcc
    split at ht
    ·simp only [Option.some.injEq] at ht; subst ht
     rename_i x y z
     obtain ⟨p,q,r,hl,hp,hq,hr⟩:=Zna hargs
     have hcargs:cargs=#[p,q,r]:=by
      have:cargs=cargs.toList.toArray:=by simp
      rw [this,hl]
     subst hcargs
     have hs1:=h.arg hp hG
     have hs2:=h.arg hq hG
     have hs3:=h.arg hr hG
     simp only [rd] at hv
     unfold Zxs at hv
     split at hv
     ·rename_i i j l e1 e2 e3
      split at hv
      ·rename_i hb
       obtain ⟨b1,b2,b3,b4⟩:=hb
       simp only [Option.some.injEq] at hv; subst hv
       rw [e1] at hs1; rw [e2] at hs2; rw [e3] at hs3
       have f1:a.eval p=.int .u64 i:=Zua hs1
       have f2:a.eval q=.int .u64 j:=Zua hs2
       have f3:a.eval r=.int .u64 l:=Zua hs3
       refine ⟨.tuple #[.int .u64 ((i + j + l) % 18446744073709551616),.int .u64 ((i + j + l) / 18446744073709551616)],w,k,?_,h,⟨_,rfl,rfl,fun n v hn=>?_⟩⟩
       ·have hex:execOp a.eval o=callFunc fid #[a.eval p,a.eval q,a.eval r]:=by
         simp only [execOp,hop,resolve,invoke,List.map_toArray,List.map_cons,List.map_nil,pure_bind]
         rfl
        rw [hex,run_callFunc_extern hfn (by rw [hcc.2.1]; decide) (by simpa using hcc.1) (Zkm hcc.2.1 hcc.2.2) (Ztg hcc.2.1),f1,f2,f3,run_add64 _ _ _ b1 b2 b3 b4]
        rfl
       ·match n,hn with
        | 0,hn=>simp at hn; subst hn; exact ⟨_,rfl,VR.sr1 (.int _ _)⟩
        | 1,hn=>simp at hn; subst hn; exact ⟨_,rfl,VR.sr1 (.int _ _)⟩
        | n + 2,hn=>simp at hn
      ·simp at hv
     ·simp at hv
    ·simp at ht
   ·simp at ht
 ·obtain ⟨x,hx,ht⟩:=Zaf ht
  simp only [Option.some.injEq] at ht; subst ht; simp [rd] at hv
 ·simp at ht
 ·rename_i b
  have hcargs:cargs=cargs.toList.toArray:=by simp
  split at ht
  ·-- len
   rename_i x
   obtain ⟨os,hl,hox⟩:=Zkr hargs
   have hca:cargs=#[os]:=by rw [hcargs,hl]
   subst hca
   have hsr:=h.arg hox hG
   obtain ⟨t0,ht0,ht⟩:=Zaf ht
   have hex:execOp a.eval o=(do pure (Next.value (← Builtin.len_ ctypes o.type #[a.eval os]))):=by
    simp only [execOp,hop,resolve,invoke,builtin,List.map_toArray,List.map_cons,List.map_nil,pure_bind]
   refine h.reads hex ?_
   split at ht <;> simp only [Option.some.injEq,reduceCtorEq] at ht <;> subst ht
   ·rename_i n _ hu
    simp only [rd,Option.some.injEq] at hv; subst hv
    exact ⟨_,by simp [Builtin.len_,ht0,Zaa hu]; rfl,VR.sr (.int _ _)⟩
   ·rename_i el hu
    cases hx:evA st.ρ x with
    | vec xs c =>
     rw [hx] at hsr
     simp only [rd,hx,Option.some.injEq] at hv; subst hv
     have:=hsr.vec
     generalize a.eval os=X at *
     cases this with
     | vecNil _ _=>exact ⟨.int .i64 0,by simp [Builtin.len_,ht0,Zaa hu,goInt],VR.sr (.int _ _)⟩
     | vec _ _ ad len cap sz val hc hlen hcap hf hsz hcell hval =>
      subst hlen
      exact ⟨.int .i64 (xs.length:Nat),by simp [Builtin.len_,ht0,Zaa hu,goInt],VR.sr (.int _ _)⟩
    | ref id off n sz =>
     rw [hx] at hsr
     simp only [rd,hx,Option.some.injEq] at hv; subst hv
     have hsr':VR k w (.ref id off n sz) (a.eval os):=hsr
     generalize a.eval os=X at *
     cases hsr' with
     | ref=>exact ⟨.int .i64 (n:Nat),by simp [Builtin.len_,ht0,Zaa hu,goInt],VR.sr (.int _ _)⟩
    | _=>simp [rd,hx] at hv
   ·rename_i hu
    cases hx:evA st.ρ x with
    | str s =>
     rw [hx] at hsr
     simp only [rd,hx,Option.some.injEq] at hv; subst hv
     have:=Zku hsr
     exact ⟨.int .i64 (s.size:Nat),by simp [Builtin.len_,ht0,Zaa hu,goInt,this],VR.sr (.int _ _)⟩
    | _=>simp [rd,hx] at hv
   ·rename_i kt el hu
    cases hx:evA st.ρ x with
    | nilmap =>
     rw [hx] at hsr
     simp only [rd,hx,Option.some.injEq] at hv; subst hv
     have hsr':VR k w .nilmap (a.eval os):=hsr
     generalize a.eval os=X at *
     cases hsr'
     exact ⟨.int .i64 0,by simp [Builtin.len_,ht0,Zaa hu,goInt],VR.sr (.int _ _)⟩
    | map id =>
     rw [hx] at hsr
     simp only [rd,hx] at hv
     split at hv
     ·rename_i es ver hg
      simp only [Option.some.injEq] at hv; subst hv
      obtain ⟨en,clock,h1,h2,_⟩:=h.map hg
      have hsr':VR k w (.map id) (a.eval os):=hsr
      generalize a.eval os=X at *
      cases hsr' with
      | map _ b hb _ =>
       subst hb
       exact ⟨.int .i64 (es.length:Nat),by simp [Builtin.len_,ht0,Zaa hu,goInt,run_getObj_map h1,h2],VR.sr (.int _ _)⟩
     ·simp at hv
    | _=>simp [rd,hx] at hv
  ·-- max
   simp only [Option.some.injEq] at ht; subst ht
   have hex:execOp a.eval o=(do pure (Next.value (← Builtin.max_ ctypes o.type (cargs.map a.eval)))):=by
    simp only [execOp,hop,resolve,invoke,builtin,pure_bind]
   refine h.reads hex ?_
   obtain ⟨h1,h2⟩:=Zom h hG hargs
   simp only [rd] at hv
   cases hl:cargs.toList with
   | nil=>rw [hl] at hargs; simp [Zbs] at hargs; subst hargs; simp at hv
   | cons o0 os =>
    have hm:(cargs.map a.eval).toList=a.eval o0 :: os.map a.eval:=by simp [hl]
    rw [hl] at hargs h1 h2
    cases args with
    | nil=>simp at hv
    | cons x xs =>
     simp only [List.map_cons] at hv h1 h2
     obtain ⟨y,hy,hr0⟩:=h2 0 (evA st.ρ x) (by simp)
     simp at hy; subst hy
     simp only [Builtin.max_,hm]
     cases xs with
     | nil =>
      simp [maxV] at hv; subst hv
      have:os=[]:=by simpa using h1
      subst this
      exact ⟨_,rfl,hr0⟩
     | cons x1 xs1 =>
      obtain ⟨i,n,hi⟩:=Zs3 hv (by simp)
      rw [hi] at hr0 hv
      have hvr:VR k w (.int i n) (a.eval o0):=hr0
      obtain ⟨z,hz,hzr⟩:=Zk7 (P:=P) (xs:=os.map a.eval) hvr (by simpa using h1) (fun j v hj=>by simpa using h2 (j + 1) v (by simpa using hj)) hv
      exact ⟨z,hz,hzr.sr⟩
  ·-- min
   simp only [Option.some.injEq] at ht; subst ht
   have hex:execOp a.eval o=(do pure (Next.value (← Builtin.min_ ctypes o.type (cargs.map a.eval)))):=by
    simp only [execOp,hop,resolve,invoke,builtin,pure_bind]
   refine h.reads hex ?_
   obtain ⟨h1,h2⟩:=Zom h hG hargs
   simp only [rd] at hv
   cases hl:cargs.toList with
   | nil=>rw [hl] at hargs; simp [Zbs] at hargs; subst hargs; simp at hv
   | cons o0 os =>
    have hm:(cargs.map a.eval).toList=a.eval o0 :: os.map a.eval:=by simp [hl]
    rw [hl] at hargs h1 h2
    cases args with
    | nil=>simp at hv
    | cons x xs =>
     simp only [List.map_cons] at hv h1 h2
     obtain ⟨y,hy,hr0⟩:=h2 0 (evA st.ρ x) (by simp)
     simp at hy; subst hy
     simp only [Builtin.min_,hm]
     cases xs with
     | nil =>
      simp [minV] at hv; subst hv
      have:os=[]:=by simpa using h1
      subst this
      exact ⟨_,rfl,hr0⟩
     | cons x1 xs1 =>
      obtain ⟨i,n,hi⟩:=Zs2 hv (by simp)
      rw [hi] at hr0 hv
      have hvr:VR k w (.int i n) (a.eval o0):=hr0
      obtain ⟨z,hz,hzr⟩:=Zk6 (P:=P) (xs:=os.map a.eval) hvr (by simpa using h1) (fun j v hj=>by simpa using h2 (j + 1) v (by simpa using hj)) hv
      exact ⟨z,hz,hzr.sr⟩
  ·-- append
   obtain ⟨t0,ht0,ht⟩:=Zaf ht
   obtain ⟨t1,ht1,ht⟩:=Zaf ht
   obtain ⟨el,hel,ht⟩:=Zaf ht
   obtain ⟨n,hn,ht⟩:=Zaf ht
   obtain ⟨ag,hag,ht⟩:=Zaf ht
   obtain ⟨z,hz,ht⟩:=Zaf ht
   obtain ⟨e',he',ht⟩:=Zaf ht
   split at ht
   ·obtain ⟨bt,hbt,ht⟩:=Zaf ht
    simp only [Option.some.injEq] at ht; subst ht; simp [rd] at hv
   ·simp at ht
  ·-- delete
   obtain ⟨t0,ht0,ht⟩:=Zaf ht
   split at ht
   ·obtain ⟨q,hq,ht⟩:=Zaf ht
    simp only [Option.some.injEq] at ht; subst ht; simp [rd] at hv
   ·simp at ht
  ·simp at ht
theorem Zqz (h:FW G N e k β A st a w) (hG:∀ g cells,(g,cells) ∈ hs.glob→(g,cells) ∈ G) {o:Oper} {kk:K} (ht:trK P hs o=some kk) {v:V} (hv:rd st kk=some v) :
  Reads P G N e β A st a w o v:=by
 have one:∀ {s:Sem Value},execOp a.eval o=(do pure (Next.value (← s)))→(∃ x,s.run P w=.ok x w∧SR k w β A st.u v x)→Reads P G N e β A st a w o v:=fun h1 h2=>h.reads h1 h2
 unfold trK at ht
 split at ht
 case h_1 x hop | h_2 x hop =>
  obtain ⟨x',hx,ht⟩:=Zaf ht
  simp only [Option.some.injEq] at ht; subst ht
  simp only [rd,Option.some.injEq] at hv; subst hv
  exact ⟨_,w,k,by simp only [execOp,hop,Sem.run_pure],h,h.arg hx hG⟩
 case h_3 c x y hop =>
  obtain ⟨c',hc,ht⟩:=Zaf ht
  obtain ⟨x',hx,ht⟩:=Zaf ht
  obtain ⟨y',hy,ht⟩:=Zaf ht
  simp only [Option.some.injEq] at ht; subst ht
  simp only [rd] at hv
  split at hv
  ·rename_i t hb
   simp only [Option.some.injEq] at hv; subst hv
   have hc':=sr_asB (h.arg hc hG) hb
   refine ⟨if t then a.eval x else a.eval y,w,k,by simp only [execOp,hop,Sem.run_bind,hc',asBool,Sem.run_pure,Result.andThen_ok],h,?_⟩
   cases t
   ·exact h.arg hy hG
   ·exact h.arg hx hG
  ·simp at hv
 case h_4 t hop =>
  obtain ⟨z,hz,ht⟩:=Zaf ht
  repeat' split at ht
  all_goals (simp only [Option.some.injEq] at ht; subst ht; simp [rd] at hv)
 case h_5 t x hop =>
  obtain ⟨x',hx,ht⟩:=Zaf ht
  simp only [Option.some.injEq] at ht; subst ht; simp [rd] at hv
 case h_6 t parts hop =>
  obtain ⟨z,hz,ht⟩:=Zaf ht
  obtain ⟨zx,hzr,hzc⟩:=Zcb (P:=P) (w:=w) (k:=k) hz
  have hmap:∀ l:Array (Nat × Operand),(l.map fun (i,x)=>(i,a.eval x)).toList=l.toList.map fun (i,x)=>(i,a.eval x):=by intro l; simp
  split at ht
  ·rename_i fs hu
   obtain ⟨pl,hpl,ht⟩:=Zaf ht
   obtain ⟨ps,hps,ht⟩:=Zaf ht
   simp only [Option.some.injEq] at ht; subst ht
   simp only [rd] at hv
   split at hv
   ·rename_i cs hf
    simp only [Option.some.injEq] at hv; subst hv
    obtain ⟨ys,g1,g2⟩:=Zf1 h hG hps hzc.weakZ hf
    have hplaces:∀ (fs:List Field) (pl:List (Nat × Nat)),Zg8 P fs=some pl→(fs.mapM fun f=>do pure (f.offset,← sizeOf f.type):Sem (List (Nat × Nat))).run P w=.ok pl w:=by
     intro fs
     induction fs with
     | nil=>intro pl hp; simp [Zg8] at hp; subst hp; rfl
     | cons f fs ih =>
      intro pl hp
      simp only [Zg8] at hp
      split at hp
      ·rename_i n l hn hl
       simp only [Option.some.injEq] at hp; subst hp
       simp only [List.mapM_cons,Sem.run_bind,Za3 hn,Result.andThen_ok,Sem.run_pure,ih l hl]
      ·simp at hp
    have hpl':(fs.mapM fun f=>do pure (f.offset,← sizeOf f.type):Sem (Array (Nat × Nat))).run P w=.ok pl.toArray w:=by
     rw [Array.mapM_eq_mapM_toList]
     simp only [Sem.run_map,hplaces _ _ hpl,Result.andThen_ok]
    have g1':Instr.fill (fun x=>pl.toArray[x]?) zx.cells (parts.toList.map fun (i,x)=>(i,a.eval x))=some ys:=by
     simpa using g1
    refine one (s:=Instr.build t (parts.map fun (i,x)=>(i,a.eval x))) (by simp only [execOp,hop]) ⟨.agg ys,?_,VR.sr (VR.of_cells g2)⟩
    simp only [Instr.build,Sem.run_bind,hzr,Result.andThen_ok,Sem.run_pure,Zaa hu,hpl',hmap,g1']
   ·simp at hv
  ·rename_i n0 el hu
   obtain ⟨n,hn,ht⟩:=Zaf ht
   obtain ⟨ps,hps,ht⟩:=Zaf ht
   simp only [Option.some.injEq] at ht; subst ht
   simp only [rd] at hv
   split at hv
   ·rename_i cs hf
    simp only [Option.some.injEq] at hv; subst hv
    obtain ⟨ys,g1,g2⟩:=Zf1 h hG hps hzc.weakZ hf
    refine one (s:=Instr.build t (parts.map fun (i,x)=>(i,a.eval x))) (by simp only [execOp,hop]) ⟨.agg ys,?_,VR.sr (VR.of_cells g2)⟩
    simp only [Instr.build,Sem.run_bind,hzr,Result.andThen_ok,Sem.run_pure,Zaa hu,Za3 hn,hmap,g1]
   ·simp at hv
  ·simp at ht
 case h_7 t len parts hop =>
  obtain ⟨el,hel,ht⟩:=Zaf ht
  obtain ⟨n,hn,ht⟩:=Zaf ht
  obtain ⟨z,hz,ht⟩:=Zaf ht
  obtain ⟨ps,hps,ht⟩:=Zaf ht
  obtain ⟨ag,hag,ht⟩:=Zaf ht
  split at ht
  ·rename_i hc
   obtain ⟨h1,h2,h3,h4⟩:=hc
   split at ht
   ·simp only [Option.some.injEq] at ht; subst ht; simp [rd] at hv
   ·simp only [Option.some.injEq] at ht; subst ht
    simp only [rd] at hv
    split at hv
    ·rename_i cs hf
     simp only [Option.some.injEq] at hv; subst hv
     have hu:P.underlying t=some (.slice el):=by
      unfold Zpp at hel
      split at hel
      ·rename_i e' hu; simp only [Option.some.injEq] at hel; subst hel; exact hu
      ·simp at hel
     obtain ⟨ys,g1,g2,g3⟩:=Zgd h hG hu hn (ZT.wk hz) hps h1 h2 (by rw [V.weak_len]; exact h3) hf
     have hmap:(parts.map fun (i,x)=>(i,a.eval x))=((parts.toList.map fun (i,x)=>(i,a.eval x)).toArray):=Array.ext' (by rw [Array.toList_map])
     refine ⟨.slice (some ⟨w.heap.size,0,none⟩) len len,w.alloc (.cells ys el),k.setLim w.heap.size (len * n),?_,h.alloc' _ _,VR.sr (Zid (off:=0) (g2.mono (Keeps.alloc _ _)) g3 h4 rfl (fun j x hj=>?_) ?_ (Nat.le_refl _) (fun _=>rfl))⟩
     ·simp only [execOp,hop,hmap]
      exact Zba g1
     ·rw [Zax Za6]; simpa using hj
     ·simp [Ctx.setLim,Zan]
    ·simp at hv
  ·simp at ht
 case h_8 t x hop =>
  obtain ⟨x',hx,ht⟩:=Zaf ht
  obtain ⟨n,hn,ht⟩:=Zaf ht
  obtain ⟨ag,hag,ht⟩:=Zaf ht
  simp only [Option.some.injEq] at ht; subst ht
  exact one (s:=Instr.loadAt t (a.eval x)) (by simp only [execOp,hop]) (Zla h (h.arg hx hG) hn hag hv)
 case h_9 t x y hop =>
  obtain ⟨_,_,ht⟩:=Zaf ht
  obtain ⟨x',hx,ht⟩:=Zaf ht
  obtain ⟨y',hy,ht⟩:=Zaf ht
  obtain ⟨n,hn,ht⟩:=Zaf ht
  simp only [Option.some.injEq] at ht; subst ht; simp [rd] at hv
 case h_10 x hop =>
  obtain ⟨x',hx,ht⟩:=Zaf ht
  simp only [Option.some.injEq] at ht; subst ht
  have hsr:=h.arg hx hG
  simp only [rd] at hv
  split at hv
  ·rename_i cs hcs
   rw [hcs] at hsr
   simp only [Option.some.injEq] at hv; subst hv
   cases hX:a.eval x <;> rw [hX] at hsr <;> cases (show VR k w (.iptr cs) _ from hsr)
   exact ⟨_,w,k,by simp only [execOp,hop,hX,Sem.run_pure],h,hsr⟩
  ·rename_i id off hcs
   rw [hcs] at hsr
   simp only [Option.some.injEq] at hv; subst hv
   cases hX:a.eval x <;> rw [hX] at hsr <;> cases (show VR k w (.ptr id off) _ from hsr)
   exact ⟨_,w,k,by simp only [execOp,hop,hX,Sem.run_pure],h,hsr⟩
  ·rename_i s z off hcs
   rw [hcs] at hsr
   simp only [Option.some.injEq] at hv; subst hv
   have hX:=hsr.1
   rw [hX] at hsr
   exact ⟨_,w,k,by simp only [execOp,hop,hX,Sem.run_pure],h,hsr⟩
  ·simp at hv
 case h_11 op t x y yt hop =>
  split at ht
  ·split at ht
   ·split at ht <;> first
     | (simp only [Option.map_eq_some_iff] at ht; obtain ⟨_,_,rfl⟩:=ht; simp [rd] at hv; done)
     | (simp at ht; done)
   ·simp at ht
  obtain ⟨ek,hek,ht⟩:=Zaf ht
  split at ht
  ·simp at ht
  ·rename_i hn
   obtain ⟨x',hx,ht⟩:=Zaf ht
   obtain ⟨y',hy,ht⟩:=Zaf ht
   simp only [Option.some.injEq] at ht; subst ht
   simp only [rd] at hv
   refine one (s:=do eqGuard op t x y (a.eval x) (a.eval y); binOp op t (a.eval x) (a.eval y)) (by simp only [execOp,hop]) (Zxh hek (h.arg hx hG) (h.arg hy hG) (fun hi=>?_) hv)
   by_cases hc:(Zmm x || Zmm y)=true
   ·exact hc
   ·exact absurd ⟨hi,hc⟩ hn
 case h_12 op t x hop =>
  obtain ⟨x',hx,ht⟩:=Zaf ht
  simp only [Option.some.injEq] at ht; subst ht
  simp only [rd] at hv
  exact one (s:=Op.unary op (a.eval x)) (by simp only [execOp,hop]) (Zxz (h.arg hx hG) hv)
 case h_13 s d x hop =>
  split at ht
  ·rename_i i j hs' hd'
   obtain ⟨x',hx,ht⟩:=Zaf ht
   simp only [Option.some.injEq] at ht; subst ht
   simp only [rd] at hv
   have hsr:=h.arg hx hG
   split at hv
   ·rename_i i' n hi
    rw [hi] at hsr
    simp only [Option.some.injEq] at hv; subst hv
    have hX:=Ze1 hsr
    refine one (s:=convert s d (a.eval x)) (by simp only [execOp,hop]) ⟨_,?_,VR.sr (.int _ _)⟩
    simp [convert,Zaa hs',Zaa hd',hX,Conv.intToInt]
   ·simp at hv
  ·rename_i hs' hd'
   obtain ⟨x',hx,ht⟩:=Zaf ht
   simp only [Option.some.injEq] at ht; subst ht
   simp only [rd] at hv
   have hsr:=h.arg hx hG
   split at hv
   ·rename_i s' hi
    rw [hi] at hsr
    simp only [Option.some.injEq] at hv; subst hv
    have hX:=Zku hsr
    refine one (s:=convert s d (a.eval x)) (by simp only [execOp,hop]) ⟨_,?_,VR.sr (.str _)⟩
    simp [convert,Zaa hs',Zaa hd',hX]
   ·simp at hv
  ·rename_i e' hs' hd'
   split at ht
   ·rename_i he'
    obtain ⟨x',hx,ht⟩:=Zaf ht
    simp only [Option.some.injEq] at ht; subst ht
    simp only [rd] at hv
    have hsr:=h.arg hx hG
    split at hv
    ·rename_i xs c hi
     rw [hi] at hsr
     split at hv
     ·rename_i bs hbs
      simp only [Option.some.injEq] at hv; subst hv
      obtain ⟨ns,rfl,rfl⟩:=Zio hbs
      refine one (s:=convert s d (a.eval x)) (by simp only [execOp,hop]) ⟨.string ⟨(ns.map fun n=>UInt8.ofNat n.toNat).toArray⟩,?_,VR.sr (.str _)⟩
      have hX:=Zxf (P:=P) hsr.vec
      obtain ⟨b,len,cap,hXe⟩:∃ b len cap,a.eval x=.slice b len cap:=by
       have h9:=hsr.vec
       generalize a.eval x=X at h9
       generalize hvv:V.vec (ns.map (V.int .u8)) (Zxe c)=vv at h9
       cases h9 <;> simp at hvv <;> exact ⟨_,_,_,rfl⟩
      rw [hXe] at hX ⊢
      rw [run_convert_bytes_string w s d e' b len cap hs' he' hd',hX]
     ·simp at hv
    ·simp at hv
   ·simp at ht
  ·simp at ht
 case h_14 t x hop =>
  split at ht
  ·simp at ht
  ·rename_i dd hni hu
   obtain ⟨x',hx,ht⟩:=Zaf ht
   simp only [Option.some.injEq] at ht; subst ht
   simp only [rd] at hv
   split at hv
   ·rename_i v' ho
    simp only [Option.some.injEq] at hv; subst hv
    have hsr:=(h.arg hx hG).out ho
    refine one (s:=Instr.makeInterface t (a.eval x)) (by simp only [execOp,hop]) ⟨.iface t (a.eval x),?_,VR.sr (.iface t _ _ hsr)⟩
    have hr:=Zaa (w:=w) hu
    cases dd <;> first | exact absurd rfl (hni _) | (simp only [Instr.makeInterface,Sem.run_bind,hr,Result.andThen_ok]; rfl)
   ·simp at hv
  ·simp at ht
 case h_15 fn p q hop =>
  obtain ⟨p',hp,ht⟩:=Zaf ht
  obtain ⟨q',hq,ht⟩:=Zaf ht
  simp only [Option.some.injEq] at ht; subst ht
  simp only [rd] at hv
  split at hv
  ·rename_i pv qv hpv hqv
   simp only [Option.some.injEq] at hv; subst hv
   obtain ⟨p1,p2⟩:=Ze5 h hG hp hpv
   obtain ⟨q1,q2⟩:=Ze5 h hG hq hqv
   refine one (s:=Instr.makeFunc fn (p.map a.eval) (q.map a.eval)) (by simp only [execOp,hop]) ⟨.func fn (p.map a.eval) (q.map a.eval),rfl,VR.sr (.func fn pv qv _ _ (fun j=>(p.map a.eval).getD j undef) (fun j=>(q.map a.eval).getD j undef) (by simpa using p1) (by simpa using q1) (fun j v hj=>?_) (fun j v hj=>?_) (fun j v hj=>?_) (fun j v hj=>?_))⟩
   all_goals first
    | (obtain ⟨x,hx,hr⟩:=p2 j v hj
       have hx':(p.map a.eval)[j]?=some x:=by simpa using hx
       have hg:(p.map a.eval).getD j undef=x:=by rw [Array.getD_eq_getD_getElem?,hx']; rfl
       rw [hg]; first | exact hx' | exact hr)
    | (obtain ⟨x,hx,hr⟩:=q2 j v hj
       have hx':(q.map a.eval)[j]?=some x:=by simpa using hx
       have hg:(q.map a.eval).getD j undef=x:=by rw [Array.getD_eq_getD_getElem?,hx']; rfl
       rw [hg]; first | exact hx' | exact hr)
  ·simp at hv
 case h_16 t hop=>simp only [Option.some.injEq] at ht; subst ht; simp [rd] at hv
 case h_17 t l c hop =>
  obtain ⟨el,hel,ht⟩:=Zaf ht
  obtain ⟨n,hn,ht⟩:=Zaf ht
  obtain ⟨z,hz,ht⟩:=Zaf ht
  obtain ⟨ag,hag,ht⟩:=Zaf ht
  split at ht
  ·obtain ⟨_,_,ht⟩:=Zaf ht
   obtain ⟨_,_,ht⟩:=Zaf ht
   obtain ⟨_,_,ht⟩:=Zaf ht
   simp only [Option.some.injEq] at ht; subst ht; simp [rd] at hv
  ·simp at ht
 case h_18 t x lo hi mx hop =>
  split at ht
  ·rename_i el hu
   obtain ⟨x',hx,ht⟩:=Zaf ht
   obtain ⟨l',hl,ht⟩:=Zaf ht
   obtain ⟨h',hh,ht⟩:=Zaf ht
   obtain ⟨m',hm,ht⟩:=Zaf ht
   obtain ⟨n,hn,ht⟩:=Zaf ht
   simp only [Option.some.injEq] at ht; subst ht
   simp only [rd] at hv
   refine one (s:=Instr.sliceAt t (a.eval x) (lo.map a.eval) (hi.map a.eval) (mx.map a.eval)) (by simp only [execOp,hop]) ?_
   have hsr:=h.arg hx hG
   have h1:=h.opt hG hl
   have h2:=h.opt hG hh
   have h3:=h.opt hG hm
   cases hX:evA st.ρ x' with
   | vec xs c=>rw [hX] at hsr hv; exact slc_vec hsr h1 h2 h3 hu hn hv
   | ref id off len z=>rw [hX] at hsr hv; exact slc_ref hsr h1 h2 h3 hu hn hv
   | _=>rw [hX] at hv; simp [slcV] at hv
  ·rename_i hu
   obtain ⟨x',hx,ht⟩:=Zaf ht
   obtain ⟨l',hl,ht⟩:=Zaf ht
   obtain ⟨h',hh,ht⟩:=Zaf ht
   obtain ⟨m',hm,ht⟩:=Zaf ht
   simp only [Option.some.injEq] at ht; subst ht
   simp only [rd] at hv
   refine one (s:=Instr.sliceAt t (a.eval x) (lo.map a.eval) (hi.map a.eval) (mx.map a.eval)) (by simp only [execOp,hop]) ?_
   have hsr:=h.arg hx hG
   have h1:=h.opt hG hl
   have h2:=h.opt hG hh
   have h3:=h.opt hG hm
   cases hX:evA st.ρ x' with
   | str s=>rw [hX] at hsr hv; exact slc_str hsr h1 h2 h3 hu hv
   | _=>rw [hX] at hv; simp [Zsi] at hv
  ·simp at ht
 case h_19 s x f hop =>
  split at ht
  ·rename_i fs hu
   obtain ⟨fd,hf,ht⟩:=Zaf ht
   obtain ⟨n,hn,ht⟩:=Zaf ht
   split at ht
   ·simp at ht
   ·rename_i h0
    obtain ⟨x',hx,ht⟩:=Zaf ht
    simp only [Option.some.injEq] at ht; subst ht
    exact one (s:=Instr.fieldAt s (a.eval x) f) (by simp only [execOp,hop]) (Zwj (h.arg hx hG) hu hf hn h0 hv)
  ·simp at ht
 case h_20 t x f hop =>
  split at ht
  ·rename_i fs hu
   obtain ⟨fd,hf,ht⟩:=Zaf ht
   obtain ⟨x',hx,ht⟩:=Zaf ht
   obtain ⟨n,hn,ht⟩:=Zaf ht
   obtain ⟨ag,hag,ht⟩:=Zaf ht
   simp only [Option.some.injEq] at ht; subst ht
   have hsr:=h.arg hx hG
   simp only [rd] at hv
   split at hv
   ·rename_i cs hcs
    rw [hcs] at hsr
    obtain ⟨xs,hX,hvr⟩:=Zqr hsr
    obtain ⟨y,hy,hr⟩:=Zk1 (P:=P) (β:=β) (A:=A) (u:=st.u) hvr hn hag hv
    refine one (s:=Instr.field t (a.eval x) f) (by simp only [execOp,hop]) ⟨y,?_,hr⟩
    simp [Instr.field,Zaa hu,hf,hX,asAgg,hy]
   ·simp at hv
  ·simp at ht
 case h_21 t x i hop =>
  split at ht
  ·rename_i el hu
   obtain ⟨n,hn,ht⟩:=Zaf ht
   split at ht
   ·rename_i h0
    obtain ⟨x',hx,ht⟩:=Zaf ht
    obtain ⟨i',hi,ht⟩:=Zaf ht
    simp only [Option.some.injEq] at ht; subst ht
    exact one (s:=Instr.indexAt t (a.eval x) (a.eval i)) (by simp only [execOp,hop]) (Ztc (h.arg hx hG) (h.arg hi hG) hu hn h0 hv)
   ·simp at ht
  ·rename_i len el hu
   obtain ⟨x',hx,ht⟩:=Zaf ht
   obtain ⟨i',hi,ht⟩:=Zaf ht
   obtain ⟨n,hn,ht⟩:=Zaf ht
   simp only [Option.some.injEq] at ht; subst ht
   have hsi:=h.arg hi hG
   simp only [rd] at hv
   split at hv
   ·rename_i j n' hj
    rw [hj] at hsi
    split at hv
    ·rename_i hc
     exact one (s:=Instr.indexAt t (a.eval x) (a.eval i)) (by simp only [execOp,hop]) (Ztd (h.arg hx hG) hsi hu hn hc hv)
    ·simp at hv
   ·simp at hv
  ·simp at ht
 case h_22 t x i hop =>
  split at ht
  ·rename_i hu
   obtain ⟨x',hx,ht⟩:=Zaf ht
   obtain ⟨i',hi,ht⟩:=Zaf ht
   simp only [Option.some.injEq] at ht; subst ht
   have hsx:=h.arg hx hG
   have hsi:=h.arg hi hG
   simp only [rd] at hv
   split at hv
   ·rename_i s j n hs' hj
    rw [hs'] at hsx
    rw [hj] at hsi
    split at hv
    ·rename_i h0
     split at hv
     ·rename_i b hb
      simp only [Option.some.injEq] at hv; subst hv
      have e1:=Zku hsx
      have e2:=Ze1 hsi
      refine one (s:=Instr.index t (a.eval x) (a.eval i)) (by simp only [execOp,hop]) ⟨.int .u8 b.toNat,?_,VR.sr (.int _ _)⟩
      have hb':s[n.toNat]?=some b:=by rw [str_get]; exact hb
      simp [Instr.index,asIntOf,e1,e2,Zaa hu,h0,hb']
     ·simp at hv
    ·simp at hv
   ·simp at hv
  ·rename_i len el hu
   obtain ⟨x',hx,ht⟩:=Zaf ht
   obtain ⟨i',hi,ht⟩:=Zaf ht
   obtain ⟨n,hn,ht⟩:=Zaf ht
   obtain ⟨ag,hag,ht⟩:=Zaf ht
   simp only [Option.some.injEq] at ht; subst ht
   have hsx:=h.arg hx hG
   have hsi:=h.arg hi hG
   simp only [rd] at hv
   split at hv
   ·rename_i cs j n' hs' hj
    rw [hs'] at hsx
    rw [hj] at hsi
    split at hv
    ·rename_i hc
     obtain ⟨xs,hX,hvr⟩:=Zqr hsx
     have e2:=Ze1 hsi
     obtain ⟨y,hy,hr⟩:=Zk1 (P:=P) (β:=β) (A:=A) (u:=st.u) hvr hn hag hv
     refine one (s:=Instr.index t (a.eval x) (a.eval i)) (by simp only [execOp,hop]) ⟨y,?_,hr⟩
     simp [Instr.index,asIntOf,hX,e2,Zaa hu,hc,Za3 hn,hy]
    ·simp at hv
   ·simp at hv
  ·simp at ht
 case h_23 t x i ok hop =>
  split at ht
  ·rename_i kt el hu
   obtain ⟨q,hq,ht⟩:=Zaf ht
   obtain ⟨x',hx,ht⟩:=Zaf ht
   obtain ⟨i',hi,ht⟩:=Zaf ht
   obtain ⟨z,hz,ht⟩:=Zaf ht
   simp only [Option.some.injEq] at ht; subst ht
   exact one (s:=Instr.lookup t (a.eval x) (a.eval i) ok) (by simp only [execOp,hop]) (Zvw h (h.arg hx hG) (h.arg hi hG) hu hq hz hv)
  ·simp at ht
 case h_24 t m i x hop | h_25 t m i x hop =>
  split at ht
  ·obtain ⟨q,hq,ht⟩:=Zaf ht
   obtain ⟨_,_,ht⟩:=Zaf ht
   obtain ⟨_,_,ht⟩:=Zaf ht
   obtain ⟨_,_,ht⟩:=Zaf ht
   simp only [Option.some.injEq] at ht; subst ht; simp [rd] at hv
  ·simp at ht
 case h_26 t x hop =>
  split at ht
  ·obtain ⟨_,_,ht⟩:=Zaf ht
   simp only [Option.some.injEq] at ht; subst ht; simp [rd] at hv
  ·simp at ht
 case h_27 x hop | h_28 x hop =>
  obtain ⟨_,_,ht⟩:=Zaf ht
  simp only [Option.some.injEq] at ht; subst ht; simp [rd] at hv
 case h_29 x xt t hop =>
  split at ht
  ·simp at ht
  ·rename_i dd hni hu
   obtain ⟨x',hx,ht⟩:=Zaf ht
   simp only [Option.some.injEq] at ht; subst ht
   have hsr:=h.arg hx hG
   simp only [rd] at hv
   split at hv
   ·rename_i t' v' hi
    rw [hi] at hsr
    split at hv
    ·rename_i htt
     subst htt
     simp only [Option.some.injEq] at hv; subst hv
     have hvr:VR k w (.iface t' v') (a.eval x):=hsr
     cases hX:a.eval x <;> rw [hX] at hvr <;> cases hvr
     rename_i y hy
     refine one (s:=Instr.typeAssert (a.eval x) xt t' false) (by simp only [execOp,hop]) ⟨y,?_,VR.sr hy⟩
     rw [hX]
     have hr:=Zaa (w:=w) hu
     cases dd <;> first | exact absurd rfl (hni _) | (simp only [Instr.typeAssert,Sem.run_bind,hr,Result.andThen_ok,if_true]; rfl)
    ·simp at hv
   ·simp at hv
  ·simp at ht
 case h_30 x i hop =>
  obtain ⟨x',hx,ht⟩:=Zaf ht
  simp only [Option.some.injEq] at ht; subst ht
  have hsr:=h.arg hx hG
  simp only [rd] at hv
  split at hv
  ·rename_i vs hi
   rw [hi] at hsr
   obtain ⟨xs,hX,hsz,hall⟩:=hsr
   obtain ⟨y,hy,hr⟩:=hall i v hv
   refine one (s:=Instr.extract (a.eval x) i) (by simp only [execOp,hop]) ⟨y,by simp [Instr.extract,hX,hy],?_⟩
   by_cases hvt:∀ vs,v ≠ .tuple vs
   ·rw [SR.eq1 hvt]; exact hr
   ·cases v with
    | tuple vs'=>cases (show VR k w (.tuple vs') y from hr)
    | _=>exact absurd (fun vs=>by simp) hvt
  ·simp at hv
 case h_31 c hop=>exact rd_call h hG hop ht hv
 case h_32 x hop =>
  obtain ⟨_,_,ht⟩:=Zaf ht
  simp only [Option.some.injEq] at ht; subst ht; simp [rd] at hv
 case h_33=>simp at ht
end
end Go.Ab
