/- Part of a proof:  -/
import Derived.Test.YtihjhelbdbeokaaGreatDoorQ3
import Derived.Test.YtihjhelbdbeokaaGreatDoorProg
import Derived.KernelRfl
set_option maxRecDepth 100000
namespace Go.Ab.YtihjhelbdbeokaaGreatDoor
def Zgv:List (Nat × List V):=[(0,[.int .i64 5,.int .i64 7,.int .i64 13,.int .i64 17,.int .i64 19,.int .i64 31,.int .i64 61]),(1,[.int .i64 2,.int .i64 0,.bool false,.int .u64 0])]
def bytes0:ByteArray:=⟨#[0,1,2,2,3,3,3,3,4,4,4,4,4,4,4,4,5,5,5,5,5,5,5,5,5,5,5,5,5,5,5,5,6,6,6,6,6,6,6,6,6,6,6,6,6,6,6,6,6,6,6,6,6,6,6,6,6,6,6,6,6,6,6,6,7,7,7,7,7,7,7,7,7,7,7,7,7,7,7,7,7,7,7,7,7,7,7,7,7,7,7,7,7,7,7,7,7,7,7,7,7,7,7,7,7,7,7,7,7,7,7,7,7,7,7,7,7,7,7,7,7,7,7,7,7,7,7,7,8,8,8,8,8,8,8,8,8,8,8,8,8,8,8,8,8,8,8,8,8,8,8,8,8,8,8,8,8,8,8,8,8,8,8,8,8,8,8,8,8,8,8,8,8,8,8,8,8,8,8,8,8,8,8,8,8,8,8,8,8,8,8,8,8,8,8,8,8,8,8,8,8,8,8,8,8,8,8,8,8,8,8,8,8,8,8,8,8,8,8,8,8,8,8,8,8,8,8,8,8,8,8,8,8,8,8,8,8,8,8,8,8,8,8,8,8,8,8,8,8,8,8,8,8,8,8,8]⟩
namespace Z
abbrev t (n:Nat):Arg:=.tmp n
abbrev i (n:Int):Arg:=.cst (.int .i64 n)
abbrev w (n:Int):Arg:=.cst (.int .u64 n)
abbrev d (n:Nat) (k:K):IOp:=⟨some n,none,k⟩
abbrev m (n a:Nat):IOp:=⟨some n,none,.mv (.tmp a)⟩
abbrev l (n a:Nat):IOp:=⟨some n,none,.load (.tmp a) 1 false⟩
abbrev q (n a b:Nat):IOp:=⟨some n,none,.fad (.tmp a) b⟩
abbrev k (n f:Nat) (x:List Arg):IOp:=⟨some n,none,.call f x⟩
abbrev b (n:Nat) (o:BinOp) (x y:Arg):IOp:=⟨some n,none,.bin o .plain x y⟩
abbrev v0:V:=.vec [] .any
abbrev s0:V:=.str ⟨#[]⟩
abbrev i0:V:=.int .i64 0
abbrev w0:V:=.int .u64 0
abbrev y (o b:List Nat) (l:List (List Nat)) (d:List (Nat×List Nat×List (Nat×List Nat))) (f:Bool):Hints:=⟨o,b,l,d,Zgv,f⟩
abbrev y0:Hints:=⟨[],[],[],[],Zgv,false⟩
end Z
open Z
open Go.Proofs
def ir5:IFn:=⟨41,[.tmp 4 false],
.seq (.reg [d 2 (.box (t 0) false),
d 4 (.mv (.cst (.bool false)))])
(.seq (.seq (.reg [d 9 (.load (t 2) 3 true),
k 10 11 [t 9,i 60],
d 11 (.un .not (t 10)),
m 12 11,
⟨some 13,some (12,false),.mv (t 1)⟩,
⟨some 14,some (12,false),.len .i (t 13)⟩,
⟨some 15,some (12,false),.bin .gtr .plain (t 14) (i 20)⟩,
d 16 (.pick (t 12) (.cst (.bool true)) (t 15))])
(.cond (t 16)
(.seq (.reg [k 17 13 [],
m 4 17])
.ret)
.skip))
(.seq (.reg [d 19 (.load (t 2) 3 true),
m 20 1,
k 21 17 [t 19,t 20],
m 18 21,
d 22 (.ext (t 18) 0),
d 23 (.ext (t 18) 1),
m 5 22,
m 6 23])
(.seq (.reg [d 25 (.load (t 2) 3 true),
m 26 1,
k 27 21 [t 25,t 26],
m 24 27,
d 28 (.ext (t 24) 0),
d 29 (.ext (t 24) 1),
m 7 28,
m 8 29])
(.seq (.reg [k 30 13 [],
m 31 30,
⟨some 32,some (31,true),.mv (t 6)⟩,
⟨some 33,some (31,true),.mv (t 8)⟩,
⟨some 34,some (31,true),.bin .eql .plain (t 32) (t 33)⟩,
d 35 (.pick (t 31) (t 34) (.cst (.bool false))),
m 36 35,
⟨some 37,some (36,true),.mv (t 5)⟩,
⟨some 38,some (36,true),.mv (t 7)⟩,
⟨some 39,some (36,true),.call 22 [t 37,t 38]⟩,
d 40 (.pick (t 36) (t 39) (.cst (.bool false))),
m 4 40])
.ret))))⟩
theorem tr5:trF Tryz.prog y0 Tryz.f5=some ir5:=by kernel_rfl
def ir11:IFn:=⟨40,[.tmp 4 false],
.seq (.reg [d 2 (.box (t 0) false),
d 4 (.mv (.cst (.bool false)))])
(.seq (.reg [q 5 2 0,
l 6 5,
d 7 (.len .i (t 6)),
b 8 .leq (t 7) (i 6),
m 9 8,
⟨some 10,some (9,true),.fad (t 2) 1⟩,
⟨some 11,some (9,true),.load (t 10) 1 false⟩,
⟨some 12,some (9,true),.len .i (t 11)⟩,
⟨some 13,some (9,true),.bin .leq .plain (t 12) (i 4)⟩,
d 14 (.pick (t 9) (t 13) (.cst (.bool false))),
m 15 14,
⟨some 16,some (15,true),.fad (t 2) 2⟩,
⟨some 17,some (15,true),.load (t 16) 1 false⟩,
⟨some 18,some (15,true),.len .i (t 17)⟩,
⟨some 19,some (15,true),.bin .leq .plain (t 18) (i 30)⟩,
d 20 (.pick (t 15) (t 19) (.cst (.bool false))),
m 21 20,
⟨some 22,some (21,true),.load (t 2) 3 true⟩,
⟨some 23,some (21,true),.call 25 [t 22]⟩,
d 24 (.pick (t 21) (t 23) (.cst (.bool false))),
m 25 24,
⟨some 26,some (25,true),.load (t 2) 3 true⟩,
⟨some 27,some (25,true),.call 26 [t 26]⟩,
⟨some 28,some (25,true),.mv (t 1)⟩,
⟨some 29,some (25,true),.bin .leq .plain (t 27) (t 28)⟩,
d 30 (.pick (t 25) (t 29) (.cst (.bool false))),
m 31 30,
⟨some 32,some (31,true),.load (t 2) 3 true⟩,
⟨some 33,some (31,true),.call 27 [t 32]⟩,
⟨some 34,some (31,true),.un .not (t 33)⟩,
⟨some 35,some (31,true),.mv (t 34)⟩,
⟨some 36,some (35,false),.load (t 2) 3 true⟩,
⟨some 37,some (35,false),.call 28 [t 36,i 40]⟩,
⟨some 38,some (31,true),.pick (t 35) (.cst (.bool true)) (t 37)⟩,
d 39 (.pick (t 31) (t 38) (.cst (.bool false))),
m 4 39])
.ret)⟩
theorem tr11:trF Tryz.prog y0 Tryz.f11=some ir11:=by kernel_rfl
def ir13:IFn:=⟨89,[.tmp 0 false],
.seq (.reg [d 0 (.mv (.cst (.bool false)))])
(.seq (.reg [d 10 (.bld [s0,i0,i0,i0] [(0,1,(.cst (.str ⟨#[97]⟩))),(1,1,(i 1)),(2,1,(i 1))]),
d 11 (.bsl 1 4 true [s0,i0,i0,i0] [(0,4,(t 10))]),
d 12 (.bld [i0,i0,w0,s0,v0] [(0,1,(i 2)),(3,1,(.cst (.str ⟨#[97]⟩)))]),
d 13 (.bsl 1 5 true [i0,i0,w0,s0,v0] [(0,5,(t 12))]),
d 14 (.bld [i0,s0,v0,v0,v0] [(0,1,(i 5)),(2,1,(t 13))]),
d 15 (.bsl 1 5 true [i0,s0,v0,v0,v0] [(0,5,(t 14))]),
d 16 (.bld [v0,v0,v0] [(0,1,(t 11)),(2,1,(t 15))]),
d 1 (.allocz [(.vec [] .full),(.vec [] .full),(.vec [] .full)] false),
⟨none,none,.store (t 1) (t 16) 3⟩])
(.seq (.reg [d 18 (.load (t 1) 3 true),
k 19 16 [t 18,w 31],
m 17 19,
d 20 (.ext (t 17) 0),
d 21 (.ext (t 17) 1),
d 2 (.allocz [w0,(.vec [] .full),(.vec [] .full)] false),
⟨none,none,.store (t 2) (t 20) 3⟩,
m 3 21])
(.seq (.reg [d 23 (.load (t 1) 3 true),
d 24 (.bsl 1 1 false [w0] [(0,1,(w 1))]),
d 25 (.bsl 1 1 false [v0] [(0,1,(t 24))]),
k 26 17 [t 23,t 25],
m 22 26,
d 27 (.ext (t 22) 0),
d 28 (.ext (t 22) 1),
m 4 27,
m 5 28])
(.seq (.seq (.reg [m 29 3,
b 30 .neq (t 29) (i 0),
m 31 30,
⟨some 32,some (31,false),.mv (t 5)⟩,
⟨some 33,some (31,false),.bin .neq .plain (t 32) (i 0)⟩,
d 34 (.pick (t 31) (.cst (.bool true)) (t 33)),
m 35 34,
⟨some 36,some (35,false),.load (t 2) 3 true⟩,
⟨some 37,some (35,false),.call 18 [t 36]⟩,
⟨some 38,some (35,false),.un .not (t 37)⟩,
d 39 (.pick (t 35) (.cst (.bool true)) (t 38)),
m 40 39,
⟨some 41,some (40,false),.mv (t 4)⟩,
⟨some 42,some (40,false),.len .i (t 41)⟩,
⟨some 43,some (40,false),.bin .neq .plain (t 42) (i 1)⟩,
d 44 (.pick (t 40) (.cst (.bool true)) (t 43)),
m 45 44,
⟨some 46,some (45,false),.mv (t 4)⟩,
⟨some 47,some (45,false),.idxS (t 46) (i 0) 1⟩,
⟨some 48,some (45,false),.load (t 47) 1 false⟩,
⟨some 49,some (45,false),.len .i (t 48)⟩,
⟨some 50,some (45,false),.bin .neq .plain (t 49) (i 1)⟩,
d 51 (.pick (t 45) (.cst (.bool true)) (t 50))])
(.cond (t 51)
(.seq (.reg [d 0 (.mv (.cst (.bool false)))])
.ret)
.skip))
(.seq (.reg [d 53 (.load (t 2) 3 true),
m 54 4,
k 55 19 [t 53,t 54],
m 52 55,
d 56 (.ext (t 52) 0),
d 57 (.ext (t 52) 1),
m 6 56,
m 7 57])
(.seq (.reg [d 59 (.bld [i0,i0,w0,s0,v0] [(0,1,(i 1)),(2,1,(w 31))]),
d 60 (.bsl 1 5 true [i0,i0,w0,s0,v0] [(0,5,(t 59))]),
d 61 (.bld [i0,s0,v0,v0,v0] [(0,1,(i 5)),(2,1,(t 60))]),
d 62 (.bsl 1 5 true [i0,s0,v0,v0,v0] [(0,5,(t 61))]),
d 63 (.bld [v0,v0,v0] [(2,1,(t 62))]),
k 64 16 [t 63,w 31],
m 58 64,
d 65 (.ext (t 58) 0),
d 66 (.ext (t 58) 1),
d 8 (.allocz [w0,(.vec [] .full),(.vec [] .full)] false),
⟨none,none,.store (t 8) (t 65) 3⟩,
m 9 66])
(.seq (.reg [m 67 7,
b 68 .eql (t 67) (i 0),
m 69 68,
⟨some 70,some (69,true),.mv (t 6)⟩,
⟨some 71,some (69,true),.len .i (t 70)⟩,
⟨some 72,some (69,true),.bin .eql .plain (t 71) (i 1)⟩,
d 73 (.pick (t 69) (t 72) (.cst (.bool false))),
m 74 73,
⟨some 75,some (74,true),.mv (t 6)⟩,
⟨some 76,some (74,true),.idxS (t 75) (i 0) 1⟩,
⟨some 77,some (74,true),.load (t 76) 1 false⟩,
⟨some 78,some (74,true),.bin .eql .plain (t 77) (w 1)⟩,
d 79 (.pick (t 74) (t 78) (.cst (.bool false))),
m 80 79,
⟨some 81,some (80,true),.load (t 2) 3 true⟩,
⟨some 82,some (80,true),.call 31 [t 81,i 1]⟩,
⟨some 83,some (80,true),.bin .eql .plain (t 82) (i 1)⟩,
d 84 (.pick (t 80) (t 83) (.cst (.bool false))),
m 85 84,
⟨some 86,some (85,true),.mv (t 9)⟩,
⟨some 87,some (85,true),.bin .eql .plain (t 86) (i 11)⟩,
d 88 (.pick (t 85) (t 87) (.cst (.bool false))),
m 0 88])
.ret)))))))⟩
theorem tr13:trF Tryz.prog y0 Tryz.f13=some ir13:=by kernel_rfl
def ir16:IFn:=⟨26,[.cell 4 3 true false,.tmp 5 false],
.seq (.reg [d 2 (.box (t 0) false),
d 4 (.allocz [w0,(.vec [] .full),(.vec [] .full)] false),
d 5 (.mv (i 0))])
(.seq (.seq (.reg [d 9 (.load (t 2) 3 true),
m 10 1,
k 11 37 [t 9,t 10],
m 6 11])
(.seq (.reg [m 12 6,
b 13 .neq (t 12) (i 0)])
(.cond (t 13)
(.seq (.reg [d 14 (.bld [w0,v0,v0] []),
m 15 6,
⟨none,none,.store (t 4) (t 14) 3⟩,
m 5 15])
.ret)
.skip)))
(.seq (.reg [d 17 (.load (t 2) 3 true),
m 18 1,
k 19 38 [t 17,t 18],
m 16 19,
d 20 (.ext (t 16) 0),
d 21 (.ext (t 16) 1),
d 7 (.allocz [w0,(.vec [] .full),(.vec [] .full)] false),
⟨none,none,.store (t 7) (t 20) 3⟩,
m 8 21])
(.seq (.seq (.reg [m 22 8,
d 23 (.un .not (t 22))])
(.cond (t 23)
(.seq (.reg [d 24 (.bld [w0,v0,v0] []),
⟨none,none,.store (t 4) (t 24) 3⟩,
d 5 (.mv (i 2))])
.ret)
.skip))
(.seq (.reg [d 25 (.load (t 7) 3 true),
⟨none,none,.store (t 4) (t 25) 3⟩,
d 5 (.mv (i 0))])
.ret))))⟩
theorem tr16:trF Tryz.prog y0 Tryz.f16=some ir16:=by kernel_rfl
def ir17:IFn:=⟨75,[.tmp 4 false,.tmp 5 false],
.seq (.reg [d 2 (.box (t 0) false),
d 4 (.mv (.cst (.vec [] .full))),
d 5 (.mv (i 0))])
(.seq (.seq (.reg [d 14 (.load (t 2) 3 true),
m 15 1,
k 16 39 [t 14,t 15],
m 6 16])
(.seq (.reg [m 17 6,
b 18 .neq (t 17) (i 0)])
(.cond (t 18)
(.seq (.reg [m 19 6,
d 4 (.mv (.cst (.vec [] .full))),
m 5 19])
.ret)
.skip)))
(.seq (.reg [m 20 1,
d 21 (.len .i (t 20)),
d 22 (.mks (t 21) (t 21) 1 24 false [(.vec [] .full)] true),
m 7 22])
(.seq (.reg [m 23 1,
d 24 (.len .i (t 23)),
d 25 (.mks (t 24) (t 24) 1 8 false [i0] true),
m 8 25])
(.seq (.seq (.reg [q 26 2 0,
l 27 26,
d 28 (.len .i (t 27)),
d 29 (.mv (i 0))])
(.block 0
(.loop [1,7,8,27,28,29]
(.seq (.reg [b 30 .lss (t 29) (t 28)])
(.seq (.cond (t 30)
.skip
(.brk 0))
(.seq (.block 1
(.seq (.reg [d 31 (.idxS (t 27) (t 29) 4),
d 32 (.load (t 31) 4 true),
d 10 (.allocz [s0,i0,i0,i0] false),
⟨none,none,.store (t 10) (t 32) 4⟩])
(.seq (.reg [q 33 10 1,
l 34 33,
b 35 .sub (t 34) (i 1),
m 11 35])
(.seq (.reg [q 36 10 3,
l 37 36,
d 38 (.max [t 37,i 1]),
d 39 (.mv (i 0))])
(.block 2
(.loop [1,7,8,10,11,27,28,29,38,39]
(.seq (.reg [b 40 .lss (t 39) (t 38)])
(.seq (.cond (t 40)
.skip
(.brk 2))
(.seq (.block 3
(.seq (.draw [(m 42 1,0,[]),
(m 43 11,1,[]),
(d 44 (.idxS (t 42) (t 43) 1),2,[]),
(l 45 44,3,[]),
(m 46 8,4,[]),
(m 47 11,5,[]),
(d 48 (.idxS (t 46) (t 47) 1),6,[]),
(l 49 48,7,[]),
(d 50 (.idxS (t 45) (t 49) 1),8,[]),
(l 51 50,9,[]),
(q 52 10 2,10,[]),
(l 53 52,11,[]),
(k 54 40 [t 51,t 53],12,[]),
(m 41 54,13,[]),
(d 55 (.ext (t 41) 0),14,[]),
(d 56 (.ext (t 41) 1),15,[]),
(m 12 55,16,[]),
(m 13 56,17,[])])
(.seq (.reg [m 57 7,
m 58 11,
m 59 7,
m 60 11,
d 61 (.idxS (t 59) (t 60) 1),
l 62 61,
m 63 12,
d 64 (.app (t 62) (t 63) 1 8 false true),
d 65 (.idxS (t 57) (t 58) 1),
⟨none,none,.store (t 65) (t 64) 1⟩])
(.reg [m 66 8,
m 67 11,
d 68 (.idxS (t 66) (t 67) 1),
l 69 68,
b 70 .add (t 69) (i 1),
d 71 (.idxS (t 66) (t 67) 1),
⟨none,none,.store (t 71) (t 70) 1⟩]))))
(.reg [b 72 .add (t 39) (i 1),
m 39 72]))))))))))
(.reg [b 73 .add (t 29) (i 1),
m 29 73])))))))
(.seq (.reg [m 74 7,
m 4 74,
d 5 (.mv (i 0))])
.ret)))))⟩
theorem tr17:trF Tryz.prog (y [22,25,64] [] [[1,7,8,27,28,29],[1,7,8,10,11,27,28,29,38,39]] [(12,([0,0,3,7,0,0,48,112,255,511,0,1024,4095,8191,16383,16383,32767,131071],[(0,[]),(1,[]),(2,[]),(3,[]),(4,[]),(5,[]),(6,[]),(7,[]),(8,[]),(9,[]),(10,[]),(11,[]),(12,[]),(13,[]),(14,[]),(15,[]),(16,[]),(17,[])]))] false) Tryz.f17=some ir17:=by kernel_rfl
def ir18:IFn:=⟨62,[.tmp 2 false],
.seq (.reg [d 1 (.box (t 0) false),
d 2 (.mv (.cst (.bool false)))])
(.seq (.seq (.reg [q 5 1 0,
l 6 5,
k 7 41 [t 6],
d 8 (.un .not (t 7)),
m 9 8,
⟨some 10,some (9,false),.fad (t 1) 1⟩,
⟨some 11,some (9,false),.load (t 10) 1 false⟩,
⟨some 12,some (9,false),.len .i (t 11)⟩,
⟨some 13,some (9,false),.bin .gtr .plain (t 12) (i 20000)⟩,
d 14 (.pick (t 9) (.cst (.bool true)) (t 13)),
m 15 14,
⟨some 16,some (15,false),.fad (t 1) 2⟩,
⟨some 17,some (15,false),.load (t 16) 1 false⟩,
⟨some 18,some (15,false),.len .i (t 17)⟩,
⟨some 19,some (15,false),.bin .gtr .plain (t 18) (i 1000)⟩,
d 20 (.pick (t 15) (.cst (.bool true)) (t 19))])
(.cond (t 20)
(.seq (.reg [d 2 (.mv (.cst (.bool false)))])
.ret)
.skip))
(.seq (.seq (.reg [d 3 (.mv (i 0))])
(.block 0
(.loop [1,3]
(.seq (.seq (.reg [m 21 3,
q 22 1 1,
l 23 22,
d 24 (.len .i (t 23)),
b 25 .lss (t 21) (t 24)])
(.cond (t 25)
.skip
(.brk 0)))
(.seq (.block 1
(.seq (.draw [(q 28 1 0,0,[]),
(l 29 28,1,[]),
(m 30 3,2,[]),
(q 31 1 1,3,[]),
(l 32 31,4,[]),
(m 33 3,5,[]),
(d 34 (.idxS (t 32) (t 33) 5),6,[]),
(d 35 (.load (t 34) 5 true),7,[]),
(k 36 42 [t 29,t 30,t 35],8,[]),
(d 37 (.un .not (t 36)),9,[])])
(.cond (t 37)
(.seq (.reg [d 2 (.mv (.cst (.bool false)))])
.ret)
.skip)))
(.reg [m 26 3,
b 27 .add (t 26) (i 1),
m 3 27]))))))
(.seq (.seq (.reg [d 4 (.mv (i 0))])
(.block 2
(.loop [1,4]
(.seq (.seq (.reg [m 38 4,
q 39 1 2,
l 40 39,
d 41 (.len .i (t 40)),
b 42 .lss (t 38) (t 41)])
(.cond (t 42)
.skip
(.brk 2)))
(.seq (.block 3
(.seq (.draw [(q 45 1 2,0,[]),
(l 46 45,1,[]),
(m 47 4,2,[]),
(d 48 (.idxS (t 46) (t 47) 1),3,[]),
(l 49 48,4,[]),
(b 50 .lss (t 49) (i 0),5,[]),
(m 51 50,6,[]),
(⟨some 52,some (51,false),.fad (t 1) 2⟩,7,[]),
(⟨some 53,some (51,false),.load (t 52) 1 false⟩,8,[]),
(⟨some 54,some (51,false),.mv (t 4)⟩,9,[]),
(⟨some 55,some (51,false),.idxS (t 53) (t 54) 1⟩,10,[]),
(⟨some 56,some (51,false),.load (t 55) 1 false⟩,11,[]),
(⟨some 57,some (51,false),.fad (t 1) 1⟩,12,[]),
(⟨some 58,some (51,false),.load (t 57) 1 false⟩,13,[]),
(⟨some 59,some (51,false),.len .i (t 58)⟩,14,[]),
(⟨some 60,some (51,false),.bin .geq .plain (t 56) (t 59)⟩,15,[]),
(d 61 (.pick (t 51) (.cst (.bool true)) (t 60)),16,[])])
(.cond (t 61)
(.seq (.reg [d 2 (.mv (.cst (.bool false)))])
.ret)
.skip)))
(.reg [m 43 4,
b 44 .add (t 43) (i 1),
m 4 44]))))))
(.seq (.reg [d 2 (.mv (.cst (.bool true)))])
.ret))))⟩
theorem tr18:trF Tryz.prog (y [] [] [[1,3],[1,4]] [(6,([0,1,0,0,8,0,56,120,255,511],[(0,[]),(1,[]),(2,[]),(3,[]),(4,[]),(5,[]),(6,[]),(7,[]),(8,[]),(9,[])])),(11,([0,1,0,7,15,31,63,127,255,127,1023,2047,127,4223,12415,32767,65535],[(0,[]),(1,[]),(2,[]),(3,[]),(4,[]),(5,[]),(6,[]),(7,[]),(8,[]),(9,[]),(10,[]),(11,[]),(12,[]),(13,[]),(14,[]),(15,[]),(16,[])]))] false) Tryz.f18=some ir18:=by kernel_rfl
def ir19:IFn:=⟨38,[.tmp 4 false,.tmp 5 false],
.seq (.reg [d 2 (.box (t 0) false),
d 4 (.mv (.cst (.vec [] .full))),
d 5 (.mv (i 0))])
(.seq (.reg [d 11 (.load (t 2) 3 true),
m 12 1,
k 13 43 [t 11,t 12],
m 10 13,
d 14 (.ext (t 10) 0),
d 15 (.ext (t 10) 1),
m 6 14,
m 7 15])
(.seq (.seq (.reg [m 16 7,
b 17 .neq (t 16) (i 0)])
(.cond (t 17)
(.seq (.reg [m 18 7,
d 4 (.mv (.cst (.vec [] .full))),
m 5 18])
.ret)
.skip))
(.seq (.reg [d 8 (.mv (.cst (.vec [] .full)))])
(.seq (.seq (.reg [d 9 (.mv (i 0))])
(.block 0
(.loop [2,6,8,9]
(.seq (.seq (.reg [m 19 9,
q 20 2 2,
l 21 20,
d 22 (.len .i (t 21)),
b 23 .lss (t 19) (t 22)])
(.cond (t 23)
.skip
(.brk 0)))
(.seq (.block 1
(.reg [m 26 8,
m 27 6,
q 28 2 2,
l 29 28,
m 30 9,
d 31 (.idxS (t 29) (t 30) 1),
l 32 31,
d 33 (.idxS (t 27) (t 32) 1),
l 34 33,
d 35 (.bsl 1 1 false [w0] [(0,1,(t 34))]),
d 36 (.app (t 26) (t 35) 1 8 false false),
m 8 36]))
(.reg [m 24 9,
b 25 .add (t 24) (i 1),
m 9 25]))))))
(.seq (.reg [m 37 8,
m 4 37,
d 5 (.mv (i 0))])
.ret)))))⟩
theorem tr19:trF Tryz.prog (y [] [] [[2,6,8,9]] [] false) Tryz.f19=some ir19:=by kernel_rfl
def ir20:IFn:=⟨26,[.tmp 4 false],
.seq (.reg [d 4 (.mv (.cst (.bool false)))])
(.seq (.seq (.reg [m 6 0,
d 7 (.len .i (t 6)),
m 8 1,
d 9 (.len .i (t 8)),
b 10 .neq (t 7) (t 9)])
(.cond (t 10)
(.seq (.reg [d 4 (.mv (.cst (.bool false)))])
.ret)
.skip))
(.seq (.seq (.reg [d 5 (.mv (i 0))])
(.block 0
(.loop [0,1,5]
(.seq (.seq (.reg [m 11 5,
m 12 0,
d 13 (.len .i (t 12)),
b 14 .lss (t 11) (t 13)])
(.cond (t 14)
.skip
(.brk 0)))
(.seq (.block 1
(.seq (.draw [(m 17 0,0,[]),
(m 18 5,1,[]),
(d 19 (.idxS (t 17) (t 18) 1),2,[]),
(l 20 19,3,[]),
(m 21 1,4,[]),
(m 22 5,5,[]),
(d 23 (.idxS (t 21) (t 22) 1),6,[]),
(l 24 23,7,[]),
(b 25 .neq (t 20) (t 24),8,[])])
(.cond (t 25)
(.seq (.reg [d 4 (.mv (.cst (.bool false)))])
.ret)
.skip)))
(.reg [m 15 5,
b 16 .add (t 15) (i 1),
m 5 16]))))))
(.seq (.reg [d 4 (.mv (.cst (.bool true)))])
.ret)))⟩
theorem tr20:trF Tryz.prog (y [] [] [[0,1,5]] [(6,([0,0,3,7,0,0,48,112,255],[(0,[]),(1,[]),(2,[]),(3,[]),(4,[]),(5,[]),(6,[]),(7,[]),(8,[])]))] false) Tryz.f20=some ir20:=by kernel_rfl
def ir21:IFn:=⟨87,[.tmp 4 false,.tmp 5 false],
.seq (.reg [d 2 (.box (t 0) false),
d 4 (.mv (.cst (.vec [] .full))),
d 5 (.mv (i 0))])
(.seq (.reg [d 14 (.load (t 2) 3 true),
m 15 1,
k 16 33 [t 14,t 15],
m 6 16])
(.seq (.seq (.reg [m 17 6,
b 18 .neq (t 17) (i 0)])
(.cond (t 18)
(.seq (.reg [m 19 6,
d 4 (.mv (.cst (.vec [] .full))),
m 5 19])
.ret)
.skip))
(.seq (.reg [m 20 1,
d 21 (.len .i (t 20)),
d 22 (.mks (t 21) (t 21) 1 24 false [(.vec [] .full)] true),
m 7 22])
(.seq (.reg [m 23 1,
d 24 (.len .i (t 23)),
d 25 (.mks (t 24) (t 24) 1 8 false [i0] true),
m 8 25])
(.seq (.seq (.reg [d 9 (.mv (i 0))])
(.block 0
(.loop [1,2,7,8,9]
(.seq (.seq (.reg [m 26 9,
q 27 2 0,
l 28 27,
d 29 (.len .i (t 28)),
b 30 .lss (t 26) (t 29)])
(.cond (t 30)
.skip
(.brk 0)))
(.seq (.block 1
(.seq (.reg [q 33 2 0,
l 34 33,
m 35 9,
d 36 (.idxS (t 34) (t 35) 4),
q 37 36 1,
l 38 37,
b 39 .sub (t 38) (i 1),
m 10 39])
(.seq (.reg [d 11 (.mv (i 0))])
(.block 2
(.loop [1,2,7,8,9,10,11]
(.seq (.seq (.reg [m 40 11,
q 41 2 0,
l 42 41,
m 43 9,
d 44 (.idxS (t 42) (t 43) 4),
q 45 44 3,
l 46 45,
d 47 (.max [t 46,i 1]),
b 48 .lss (t 40) (t 47)])
(.cond (t 48)
.skip
(.brk 2)))
(.seq (.block 3
(.seq (.draw [(m 52 1,0,[]),
(m 53 10,1,[]),
(d 54 (.idxS (t 52) (t 53) 1),2,[]),
(l 55 54,3,[]),
(m 56 8,4,[]),
(m 57 10,5,[]),
(d 58 (.idxS (t 56) (t 57) 1),6,[]),
(l 59 58,7,[]),
(d 60 (.idxS (t 55) (t 59) 1),8,[]),
(l 61 60,9,[]),
(q 62 2 0,10,[]),
(l 63 62,11,[]),
(m 64 9,12,[]),
(d 65 (.idxS (t 63) (t 64) 4),13,[]),
(q 66 65 2,14,[]),
(l 67 66,15,[]),
(k 68 44 [t 61,t 67],16,[]),
(m 51 68,17,[]),
(d 69 (.ext (t 51) 0),18,[]),
(d 70 (.ext (t 51) 1),19,[]),
(m 12 69,20,[]),
(m 13 70,21,[])])
(.seq (.reg [m 71 7,
m 72 10,
m 73 7,
m 74 10,
d 75 (.idxS (t 73) (t 74) 1),
l 76 75,
m 77 12,
d 78 (.app (t 76) (t 77) 1 8 false true),
d 79 (.idxS (t 71) (t 72) 1),
⟨none,none,.store (t 79) (t 78) 1⟩])
(.reg [m 80 8,
m 81 10,
d 82 (.idxS (t 80) (t 81) 1),
l 83 82,
b 84 .add (t 83) (i 1),
d 85 (.idxS (t 80) (t 81) 1),
⟨none,none,.store (t 85) (t 84) 1⟩]))))
(.reg [m 49 11,
b 50 .add (t 49) (i 1),
m 11 50]))))))))
(.reg [m 31 9,
b 32 .add (t 31) (i 1),
m 9 32]))))))
(.seq (.reg [m 86 7,
m 4 86,
d 5 (.mv (i 0))])
.ret))))))⟩
theorem tr21:trF Tryz.prog (y [22,25,78] [] [[1,2,7,8,9],[1,2,7,8,9,10,11]] [(13,([0,0,3,7,0,0,48,112,255,511,0,1024,0,7168,15360,31744,65535,131071,262143,262143,524287,2097151],[(0,[]),(1,[]),(2,[]),(3,[]),(4,[]),(5,[]),(6,[]),(7,[]),(8,[]),(9,[]),(10,[]),(11,[]),(12,[]),(13,[]),(14,[]),(15,[]),(16,[]),(17,[]),(18,[]),(19,[]),(20,[]),(21,[])]))] false) Tryz.f21=some ir21:=by kernel_rfl
def ir22:IFn:=⟨27,[.tmp 4 false],
.seq (.reg [d 4 (.mv (.cst (.bool false)))])
(.seq (.seq (.reg [m 6 0,
d 7 (.len .i (t 6)),
m 8 1,
d 9 (.len .i (t 8)),
b 10 .neq (t 7) (t 9)])
(.cond (t 10)
(.seq (.reg [d 4 (.mv (.cst (.bool false)))])
.ret)
.skip))
(.seq (.seq (.reg [d 5 (.mv (i 0))])
(.block 0
(.loop [0,1,5]
(.seq (.seq (.reg [m 11 5,
m 12 0,
d 13 (.len .i (t 12)),
b 14 .lss (t 11) (t 13)])
(.cond (t 14)
.skip
(.brk 0)))
(.seq (.block 1
(.seq (.draw [(m 17 0,0,[]),
(m 18 5,1,[]),
(d 19 (.idxS (t 17) (t 18) 1),2,[]),
(l 20 19,3,[]),
(m 21 1,4,[]),
(m 22 5,5,[]),
(d 23 (.idxS (t 21) (t 22) 1),6,[]),
(l 24 23,7,[]),
(k 25 20 [t 20,t 24],8,[]),
(d 26 (.un .not (t 25)),9,[])])
(.cond (t 26)
(.seq (.reg [d 4 (.mv (.cst (.bool false)))])
.ret)
.skip)))
(.reg [m 15 5,
b 16 .add (t 15) (i 1),
m 5 16]))))))
(.seq (.reg [d 4 (.mv (.cst (.bool true)))])
.ret)))⟩
theorem tr22:trF Tryz.prog (y [] [] [[0,1,5]] [(6,([0,0,3,7,0,0,48,112,255,511],[(0,[]),(1,[]),(2,[]),(3,[]),(4,[]),(5,[]),(6,[]),(7,[]),(8,[]),(9,[])]))] false) Tryz.f22=some ir22:=by kernel_rfl
def ir24:IFn:=⟨2,[.tmp 0 false],
.seq (.reg [d 0 (.mv (.cst (.vec [] .full)))])
(.seq (.reg [d 1 (.bsl 7 1 false [i0] [(0,1,(i 5)),(1,1,(i 7)),(2,1,(i 13)),(3,1,(i 17)),(4,1,(i 19)),(5,1,(i 31)),(6,1,(i 61))]),
m 0 1])
.ret)⟩
theorem tr24:trF Tryz.prog y0 Tryz.f24=some ir24:=by kernel_rfl
def ir25:IFn:=⟨88,[.tmp 2 false],
.seq (.reg [d 1 (.box (t 0) false),
d 2 (.mv (.cst (.bool false)))])
(.seq (.seq (.reg [d 3 (.mv (i 0))])
(.block 0
(.loop [1,3]
(.seq (.seq (.reg [m 7 3,
q 8 1 0,
l 9 8,
d 10 (.len .i (t 9)),
b 11 .lss (t 7) (t 10)])
(.cond (t 11)
.skip
(.brk 0)))
(.seq (.block 1
(.seq (.reg [q 14 1 0,
l 15 14,
m 16 3,
d 17 (.idxS (t 15) (t 16) 4),
d 18 (.load (t 17) 4 true),
d 4 (.allocz [s0,i0,i0,i0] false),
⟨none,none,.store (t 4) (t 18) 4⟩])
(.seq (.reg [q 19 4 0,
l 20 19,
k 21 45 [t 20],
d 22 (.un .not (t 21)),
m 23 22,
⟨some 24,some (23,false),.fad (t 4) 1⟩,
⟨some 25,some (23,false),.load (t 24) 1 false⟩,
⟨some 26,some (23,false),.bin .lss .plain (t 25) (i 1)⟩,
d 27 (.pick (t 23) (.cst (.bool true)) (t 26)),
m 28 27,
⟨some 29,some (28,false),.fad (t 4) 1⟩,
⟨some 30,some (28,false),.load (t 29) 1 false⟩,
⟨some 31,some (28,false),.bin .gtr .plain (t 30) (i 13)⟩,
d 32 (.pick (t 28) (.cst (.bool true)) (t 31)),
m 33 32,
⟨some 34,some (33,false),.fad (t 4) 2⟩,
⟨some 35,some (33,false),.load (t 34) 1 false⟩,
⟨some 36,some (33,false),.bin .lss .plain (t 35) (i 1)⟩,
d 37 (.pick (t 33) (.cst (.bool true)) (t 36)),
m 38 37,
⟨some 39,some (38,false),.fad (t 4) 2⟩,
⟨some 40,some (38,false),.load (t 39) 1 false⟩,
⟨some 41,some (38,false),.bin .gtr .plain (t 40) (i 16)⟩,
d 42 (.pick (t 38) (.cst (.bool true)) (t 41)),
m 43 42,
⟨some 44,some (43,false),.fad (t 4) 3⟩,
⟨some 45,some (43,false),.load (t 44) 1 false⟩,
⟨some 46,some (43,false),.bin .lss .plain (t 45) (i 0)⟩,
d 47 (.pick (t 43) (.cst (.bool true)) (t 46)),
m 48 47,
⟨some 49,some (48,false),.fad (t 4) 3⟩,
⟨some 50,some (48,false),.load (t 49) 1 false⟩,
⟨some 51,some (48,false),.bin .gtr .plain (t 50) (i 64)⟩,
d 52 (.pick (t 48) (.cst (.bool true)) (t 51))])
(.cond (t 52)
(.seq (.reg [d 2 (.mv (.cst (.bool false)))])
.ret)
.skip))))
(.reg [m 12 3,
b 13 .add (t 12) (i 1),
m 3 13]))))))
(.seq (.seq (.reg [d 5 (.mv (i 0))])
(.block 2
(.loop [1,5]
(.seq (.seq (.reg [m 53 5,
q 54 1 1,
l 55 54,
d 56 (.len .i (t 55)),
b 57 .lss (t 53) (t 56)])
(.cond (t 57)
.skip
(.brk 2)))
(.seq (.block 3
(.seq (.reg [q 60 1 1,
l 61 60,
m 62 5,
d 63 (.idxS (t 61) (t 62) 2),
d 64 (.load (t 63) 2 true),
d 6 (.allocz [s0,i0] false),
⟨none,none,.store (t 6) (t 64) 2⟩])
(.seq (.reg [q 65 6 0,
l 66 65,
k 67 45 [t 66],
d 68 (.un .not (t 67)),
m 69 68,
⟨some 70,some (69,false),.fad (t 6) 1⟩,
⟨some 71,some (69,false),.load (t 70) 1 false⟩,
⟨some 72,some (69,false),.bin .lss .plain (t 71) (i 1)⟩,
d 73 (.pick (t 69) (.cst (.bool true)) (t 72)),
m 74 73,
⟨some 75,some (74,false),.fad (t 6) 1⟩,
⟨some 76,some (74,false),.load (t 75) 1 false⟩,
⟨some 77,some (74,false),.bin .gtr .plain (t 76) (i 64)⟩,
d 78 (.pick (t 74) (.cst (.bool true)) (t 77))])
(.cond (t 78)
(.seq (.reg [d 2 (.mv (.cst (.bool false)))])
.ret)
.skip))))
(.reg [m 58 5,
b 59 .add (t 58) (i 1),
m 5 59]))))))
(.seq (.reg [q 79 1 2,
l 80 79,
k 81 46 [t 80,i 1],
m 82 81,
⟨some 83,some (82,true),.load (t 1) 3 true⟩,
⟨some 84,some (82,true),.call 47 [t 83]⟩,
⟨some 85,some (82,true),.len .s (t 84)⟩,
⟨some 86,some (82,true),.bin .leq .plain (t 85) (i 20000)⟩,
d 87 (.pick (t 82) (t 86) (.cst (.bool false))),
m 2 87])
.ret)))⟩
theorem tr25:trF Tryz.prog (y [] [] [[1,3],[1,5]] [] false) Tryz.f25=some ir25:=by kernel_rfl
def ir26:IFn:=⟨14,[.tmp 2 false],
.seq (.reg [d 1 (.box (t 0) false),
d 2 (.mv (i 0))])
(.seq (.draw [(q 3 1 0,0,[]),
(l 4 3,1,[]),
(d 5 (.len .i (t 4)),2,[]),
(q 6 1 1,3,[]),
(l 7 6,4,[]),
(d 8 (.len .i (t 7)),5,[]),
(b 9 .add (t 5) (t 8),6,[]),
(q 10 1 2,7,[]),
(l 11 10,8,[]),
(k 12 48 [t 11],9,[1,2,4,5]),
(b 13 .add (t 9) (t 12),10,[]),
(m 2 13,11,[])])
.ret)⟩
theorem tr26:trF Tryz.prog (y [] [] [] [(1,([0,1,3,0,8,24,63,0,128,384,1023,2047],[(0,[]),(1,[]),(2,[]),(3,[]),(4,[]),(5,[]),(6,[]),(7,[]),(8,[]),(9,[1,2,4,5]),(10,[]),(11,[])]))] false) Tryz.f26=some ir26:=by kernel_rfl
def ir27:IFn:=⟨6,[.tmp 2 false],
.seq (.reg [d 1 (.box (t 0) false),
d 2 (.mv (.cst (.bool false)))])
(.seq (.reg [d 3 (.load (t 1) 3 true),
k 4 49 [t 3],
b 5 .eql (t 4) (i 0),
m 2 5])
.ret)⟩
theorem tr27:trF Tryz.prog y0 Tryz.f27=some ir27:=by kernel_rfl
def ir28:IFn:=⟨19,[.tmp 4 false],
.seq (.reg [d 2 (.box (t 0) false),
d 4 (.mv (.cst (.bool false)))])
(.seq (.reg [d 8 (.load (t 2) 3 true),
k 9 29 [t 8],
m 7 9,
d 10 (.ext (t 7) 0),
d 11 (.ext (t 7) 1),
m 5 10,
m 6 11])
(.seq (.reg [m 12 6,
b 13 .eql (t 12) (i 0),
m 14 13,
⟨some 15,some (14,true),.mv (t 5)⟩,
⟨some 16,some (14,true),.mv (t 1)⟩,
⟨some 17,some (14,true),.bin .leq .plain (t 15) (t 16)⟩,
d 18 (.pick (t 14) (t 17) (.cst (.bool false))),
m 4 18])
.ret))⟩
theorem tr28:trF Tryz.prog y0 Tryz.f28=some ir28:=by kernel_rfl
def ir29:IFn:=⟨18,[.tmp 2 false,.tmp 3 false],
.seq (.reg [d 1 (.box (t 0) false),
d 2 (.mv (i 0)),
d 3 (.mv (i 0))])
(.seq (.reg [d 7 (.load (t 1) 3 true),
k 8 50 [t 7],
m 6 8,
d 9 (.ext (t 6) 0),
d 10 (.ext (t 6) 1),
m 4 9,
m 5 10])
(.seq (.seq (.reg [m 11 5,
b 12 .neq (t 11) (i 0)])
(.cond (t 12)
(.seq (.reg [m 13 5,
d 2 (.mv (i 0)),
m 3 13])
.ret)
.skip))
(.seq (.reg [m 14 4,
d 15 (.nilc (t 14)),
q 16 15 7,
l 17 16,
m 2 17,
d 3 (.mv (i 0))])
.ret)))⟩
theorem tr29:trF Tryz.prog y0 Tryz.f29=some ir29:=by kernel_rfl
def ir30:IFn:=⟨25,[.tmp 2 false],
.seq (.reg [d 2 (.mv (i 0))])
(.seq (.reg [k 5 24 [],
m 3 5])
(.seq (.seq (.reg [d 4 (.mv (i 0))])
(.block 0
(.loop [0,3,4]
(.seq (.seq (.reg [m 6 4,
m 7 3,
d 8 (.len .i (t 7)),
b 9 .lss (t 6) (t 8)])
(.cond (t 9)
.skip
(.brk 0)))
(.seq (.block 1
(.seq (.reg [m 12 0,
m 13 3,
m 14 4,
d 15 (.idxS (t 13) (t 14) 1),
l 16 15,
d 17 (.cvI .u64 (t 16)),
b 18 .shl (w 1) (t 17),
b 19 .sub (t 18) (w 1),
b 20 .eql (t 12) (t 19)])
(.cond (t 20)
(.seq (.reg [m 21 3,
m 22 4,
d 23 (.idxS (t 21) (t 22) 1),
l 24 23,
m 2 24])
.ret)
.skip)))
(.reg [m 10 4,
b 11 .add (t 10) (i 1),
m 4 11]))))))
(.seq (.reg [d 2 (.mv (i 0))])
.ret)))⟩
theorem tr30:trF Tryz.prog (y [] [] [[0,3,4]] [] false) Tryz.f30=some ir30:=by kernel_rfl
def ir31:IFn:=⟨34,[.tmp 4 false],
.seq (.reg [d 2 (.box (t 0) false),
d 4 (.mv (i 0))])
(.seq (.reg [d 5 (.mv (i 0))])
(.seq (.seq (.reg [d 6 (.mv (i 0))])
(.block 0
(.loop [1,2,5,6]
(.seq (.seq (.reg [m 7 6,
q 8 2 1,
l 9 8,
d 10 (.len .i (t 9)),
b 11 .lss (t 7) (t 10)])
(.cond (t 11)
.skip
(.brk 0)))
(.seq (.block 1
(.seq (.reg [q 14 2 1,
l 15 14,
m 16 6,
d 17 (.idxS (t 15) (t 16) 5),
q 18 17 0,
l 19 18,
b 20 .eql (t 19) (i 1),
m 21 20,
⟨some 22,some (21,true),.fad (t 2) 1⟩,
⟨some 23,some (21,true),.load (t 22) 1 false⟩,
⟨some 24,some (21,true),.mv (t 6)⟩,
⟨some 25,some (21,true),.idxS (t 23) (t 24) 5⟩,
⟨some 26,some (21,true),.fad (t 25) 1⟩,
⟨some 27,some (21,true),.load (t 26) 1 false⟩,
⟨some 28,some (21,true),.mv (t 1)⟩,
⟨some 29,some (21,true),.bin .eql .plain (t 27) (t 28)⟩,
d 30 (.pick (t 21) (t 29) (.cst (.bool false)))])
(.cond (t 30)
(.reg [m 31 5,
b 32 .add (t 31) (i 1),
m 5 32])
.skip)))
(.reg [m 12 6,
b 13 .add (t 12) (i 1),
m 6 13]))))))
(.seq (.reg [m 33 5,
m 4 33])
.ret)))⟩
theorem tr31:trF Tryz.prog (y [] [] [[1,2,5,6]] [] false) Tryz.f31=some ir31:=by kernel_rfl
def ir33:IFn:=⟨15,[.tmp 4 false],
.seq (.reg [d 2 (.box (t 0) false),
d 4 (.mv (i 0))])
(.seq (.reg [d 6 (.load (t 2) 3 true),
k 7 49 [t 6],
m 5 7])
(.seq (.seq (.reg [m 8 5,
b 9 .neq (t 8) (i 0)])
(.cond (t 9)
(.seq (.reg [m 10 5,
m 4 10])
.ret)
.skip))
(.seq (.seq (.reg [d 11 (.load (t 2) 3 true),
m 12 1,
k 13 54 [t 11,t 12],
d 14 (.un .not (t 13))])
(.cond (t 14)
(.seq (.reg [d 4 (.mv (i 1))])
.ret)
.skip))
(.seq (.reg [d 4 (.mv (i 0))])
.ret))))⟩
theorem tr33:trF Tryz.prog y0 Tryz.f33=some ir33:=by kernel_rfl
def ir34:IFn:=⟨8,[.tmp 2 false],
.seq (.reg [d 1 (.box (t 0) false),
d 2 (.mv (i 0))])
(.seq (.seq (.reg [q 3 1 3,
l 4 3,
b 5 .gtr (t 4) (i 0)])
(.cond (t 5)
(.seq (.reg [q 6 1 3,
l 7 6,
m 2 7])
.ret)
.skip))
(.seq (.reg [d 2 (.mv (i 1))])
.ret))⟩
theorem tr34:trF Tryz.prog y0 Tryz.f34=some ir34:=by kernel_rfl
def ir37:IFn:=⟨20,[.tmp 4 false],
.seq (.reg [d 2 (.box (t 0) false),
d 4 (.mv (i 0))])
(.seq (.reg [d 8 (.load (t 2) 3 true),
k 9 58 [t 8],
m 7 9,
d 10 (.ext (t 7) 0),
d 11 (.ext (t 7) 1),
m 5 10,
m 6 11])
(.seq (.seq (.reg [m 12 6,
b 13 .neq (t 12) (i 0)])
(.cond (t 13)
(.seq (.reg [m 14 6,
m 4 14])
.ret)
.skip))
(.seq (.seq (.reg [m 15 5,
m 16 1,
k 17 59 [t 16],
b 18 .sub (t 17) (i 1),
b 19 .gtr (t 15) (t 18)])
(.cond (t 19)
(.seq (.reg [d 4 (.mv (i 11))])
.ret)
.skip))
(.seq (.reg [d 4 (.mv (i 0))])
.ret))))⟩
theorem tr37:trF Tryz.prog y0 Tryz.f37=some ir37:=by kernel_rfl
def ir38:IFn:=⟨80,[.cell 4 3 true false,.cell 5 1 false false],
.seq (.reg [d 2 (.box (t 0) false),
d 4 (.allocz [w0,(.vec [] .full),(.vec [] .full)] true),
d 5 (.allocz [(.bool false)] true)])
(.seq (.reg [m 10 1,
m 11 1,
k 12 61 [t 11],
d 13 (.mkM),
d 14 (.mkM),
d 15 (.mkM),
d 16 (.mkM),
d 17 (.bld [w0,.nilptr,i0,i0,.nilmap,.nilmap,.nilmap,i0,i0,.nilmap] [(0,1,(t 10)),(1,1,(t 12)),(4,1,(t 13)),(5,1,(t 14)),(6,1,(t 15)),(9,1,(t 16))]),
d 18 (.box (t 17) true),
m 6 18])
(.seq (.reg [m 19 6,
d 20 (.load (t 2) 3 true),
k 21 62 [t 19,t 20]])
(.seq (.reg [m 22 6,
k 23 63 [t 22,i 2]])
(.seq (.draw [(m 24 6,0,[]),
(m 25 6,1,[]),
(m 26 6,2,[]),
(d 27 (.nilc (t 26)),3,[]),
(q 28 27 1,4,[]),
(l 29 28,5,[]),
(m 31 6,7,[]),
(d 32 (.nilc (t 31)),8,[]),
(q 33 32 1,9,[]),
(l 34 33,10,[]),
(k 30 64 [t 29,w 0],6,[9]),
(k 35 64 [t 34,w 1],11,[]),
(d 36 (.nilc (t 24)),12,[]),
(q 37 36 2,13,[]),
(⟨none,none,.store (t 37) (t 30) 1⟩,14,[]),
(d 38 (.nilc (t 25)),15,[]),
(q 39 38 3,16,[]),
(⟨none,none,.store (t 39) (t 35) 1⟩,17,[])])
(.seq (.seq (.reg [q 40 2 1,
l 41 40,
d 42 (.len .i (t 41)),
d 43 (.mv (i 0))])
(.block 0
(.loop [2,4,5,6,41,42,43]
(.seq (.reg [b 44 .lss (t 43) (t 42)])
(.seq (.cond (t 44)
.skip
(.brk 0))
(.seq (.block 1
(.seq (.reg [d 45 (.idxS (t 41) (t 43) 2),
d 46 (.load (t 45) 2 true),
d 8 (.allocz [s0,i0] false),
⟨none,none,.store (t 8) (t 46) 2⟩])
(.seq (.reg [q 47 8 1,
l 48 47,
d 49 (.mv (i 0))])
(.block 2
(.loop [2,4,5,6,8,41,42,43,48,49]
(.seq (.reg [b 50 .lss (t 49) (t 48)])
(.seq (.cond (t 50)
.skip
(.brk 2))
(.seq (.block 3
(.draw [(m 51 6,0,[]),
(d 52 (.nilc (t 51)),1,[]),
(q 53 52 5,2,[]),
(l 54 53,3,[]),
(q 55 8 0,4,[]),
(l 56 55,5,[]),
(m 57 6,6,[]),
(d 58 (.nilc (t 57)),7,[]),
(q 59 58 5,8,[]),
(l 60 59,9,[]),
(q 61 8 0,10,[]),
(l 62 61,11,[]),
(d 63 (.lkp .s (t 60) (t 62) (.vec [] .full) false),12,[]),
(m 64 6,13,[]),
(k 65 66 [t 64,w 0,i 1],14,[3,5,9,11,12]),
(k 66 65 [t 65],15,[3,5,9,11,12]),
(d 67 (.bsl 1 4 true [(.bool false),v0,(.bool false),w0] [(0,4,(t 66))]),16,[]),
(d 68 (.app (t 63) (t 67) 4 48 true false),17,[3,5]),
(⟨none,none,.mup .s (t 54) (t 56) (t 68)⟩,18,[])]))
(.reg [b 69 .add (t 49) (i 1),
m 49 69])))))))))
(.reg [b 70 .add (t 43) (i 1),
m 43 70])))))))
(.seq (.reg [m 71 6,
q 72 2 2,
l 73 72,
k 74 67 [t 71,t 73]])
(.seq (.reg [m 75 6,
d 76 (.nilc (t 75)),
q 77 76 1,
l 78 77,
k 79 68 [t 78],
⟨none,none,.store (t 4) (t 79) 3⟩,
⟨none,none,.store (t 5) (.cst (.bool true)) 1⟩])
.ret)))))))⟩
def hs38:Hints:={ obj:=[4,5,18,17],bare:=[],loops:=[[2,4,5,6,41,42,43],[2,4,5,6,8,41,42,43,48,49]],draws:=[(5,([0,0,0,4,12,28,60,0,128,384,896,2044,4093,8189,16381,32767,65535,131071],[(0,[]),(1,[]),(2,[]),(3,[]),(4,[]),(5,[]),(7,[]),(8,[]),(9,[]),(10,[]),(6,[9]),(11,[]),(12,[]),(13,[]),(14,[]),(15,[]),(16,[]),(17,[])])),(11,([0,1,3,7,0,16,0,64,192,448,0,1024,4032,0,8192,24576,57344,131008,262143],[(0,[]),(1,[]),(2,[]),(3,[]),(4,[]),(5,[]),(6,[]),(7,[]),(8,[]),(9,[]),(10,[]),(11,[]),(12,[]),(13,[]),(14,[3,5,9,11,12]),(15,[3,5,9,11,12]),(16,[]),(17,[3,5]),(18,[])]))],glob:=Zgv,fresh:=false }
theorem tr38:trD Go.Proofs.Tryz.prog (hs38) 4 Go.Proofs.Tryz.f38=some ir38:=by kernel_rfl
def ir39:IFn:=⟨15,[.tmp 4 false],
.seq (.reg [d 2 (.box (t 0) false),
d 4 (.mv (i 0))])
(.seq (.seq (.reg [d 6 (.load (t 2) 3 true),
k 7 69 [t 6],
m 5 7])
(.seq (.reg [m 8 5,
b 9 .neq (t 8) (i 0)])
(.cond (t 9)
(.seq (.reg [m 10 5,
m 4 10])
.ret)
.skip)))
(.seq (.seq (.reg [d 11 (.load (t 2) 3 true),
m 12 1,
k 13 70 [t 11,t 12],
d 14 (.un .not (t 13))])
(.cond (t 14)
(.seq (.reg [d 4 (.mv (i 1))])
.ret)
.skip))
(.seq (.reg [d 4 (.mv (i 0))])
.ret)))⟩
theorem tr39:trF Tryz.prog y0 Tryz.f39=some ir39:=by kernel_rfl
def ir40:IFn:=⟨33,[.tmp 4 false,.tmp 5 false],
.seq (.reg [d 4 (.mv (.cst (.vec [] .full))),
d 5 (.mv (i 0))])
(.seq (.seq (.reg [m 8 1,
b 9 .lss (t 8) (i 1),
m 10 9,
⟨some 11,some (10,false),.mv (t 1)⟩,
⟨some 12,some (10,false),.bin .gtr .plain (t 11) (i 60)⟩,
d 13 (.pick (t 10) (.cst (.bool true)) (t 12)),
m 14 13,
⟨some 15,some (14,false),.mv (t 0)⟩,
⟨some 16,some (14,false),.call 71 [t 15]⟩,
⟨some 17,some (14,false),.mv (t 1)⟩,
⟨some 18,some (14,false),.bin .gtr .plain (t 16) (t 17)⟩,
d 19 (.pick (t 14) (.cst (.bool true)) (t 18))])
(.cond (t 19)
(.seq (.reg [d 4 (.mv (.cst (.vec [] .full))),
d 5 (.mv (i 2))])
.ret)
.skip))
(.seq (.reg [d 6 (.mv (.cst (.vec [] .full)))])
(.seq (.seq (.reg [m 20 1,
d 21 (.mv (i 0))])
(.block 0
(.loop [0,6,20,21]
(.seq (.reg [b 22 .lss (t 21) (t 20)])
(.seq (.cond (t 22)
.skip
(.brk 0))
(.seq (.block 1
(.seq (.reg [m 23 21,
m 7 23])
(.reg [m 24 6,
m 25 0,
m 26 7,
b 27 .shr (t 25) (t 26),
b 28 .and (t 27) (w 1),
d 29 (.bsl 1 1 false [w0] [(0,1,(t 28))]),
d 30 (.app (t 24) (t 29) 1 8 false false),
m 6 30])))
(.reg [b 31 .add (t 21) (i 1),
m 21 31])))))))
(.seq (.reg [m 32 6,
m 4 32,
d 5 (.mv (i 0))])
.ret))))⟩
theorem tr40:trF Tryz.prog (y [] [] [[0,6,20,21]] [] false) Tryz.f40=some ir40:=by kernel_rfl
def ir41:IFn:=⟨6,[.tmp 2 false],
.seq (.reg [d 2 (.mv (.cst (.bool false)))])
(.seq (.reg [m 3 0,
k 4 30 [t 3],
b 5 .gtr (t 4) (i 0),
m 2 5])
.ret)⟩
theorem tr41:trF Tryz.prog y0 Tryz.f41=some ir41:=by kernel_rfl
def ir42:IFn:=⟨116,[.tmp 6 false],
.seq (.reg [d 5 (.box (t 2) false),
d 6 (.mv (.cst (.bool false)))])
(.seq (.reg [q 8 5 0,
l 9 8,
d 10 (.bld [i0,i0,i0,i0,w0] [(0,1,(t 9))]),
d 7 (.allocz [i0,i0,i0,i0,w0] false),
⟨none,none,.store (t 7) (t 10) 5⟩])
(.seq (.seq (.reg [q 11 5 0,
l 12 11])
(.block 0
(.seq (.reg [b 14 .eql (t 12) (i 1),
m 13 14])
(.cond (t 13)
(.seq (.draw [(q 15 5 1,0,[]),
(l 16 15,1,[]),
(q 17 5 4,2,[]),
(l 18 17,3,[]),
(q 19 7 1,4,[]),
(⟨none,none,.store (t 19) (t 16) 1⟩,5,[3]),
(q 20 7 4,6,[]),
(⟨none,none,.store (t 20) (t 18) 1⟩,7,[])])
(.seq (.reg [d 21 (.load (t 5) 5 true),
d 22 (.load (t 7) 5 true),
d 23 (.bin .eql (.agg [(0,.i),(1,.i),(2,.i),(3,.i),(4,.i)]) (t 21) (t 22)),
m 24 23,
⟨some 25,some (24,true),.fad (t 5) 1⟩,
⟨some 26,some (24,true),.load (t 25) 1 false⟩,
⟨some 27,some (24,true),.bin .geq .plain (t 26) (i 1)⟩,
d 28 (.pick (t 24) (t 27) (.cst (.bool false))),
m 29 28,
⟨some 30,some (29,true),.fad (t 5) 1⟩,
⟨some 31,some (29,true),.load (t 30) 1 false⟩,
⟨some 32,some (29,true),.bin .leq .plain (t 31) (i 13)⟩,
d 33 (.pick (t 29) (t 32) (.cst (.bool false))),
m 34 33,
⟨some 35,some (34,true),.fad (t 5) 4⟩,
⟨some 36,some (34,true),.load (t 35) 1 false⟩,
⟨some 37,some (34,true),.bin .leq .plain (t 36) (w 1)⟩,
d 38 (.pick (t 34) (t 37) (.cst (.bool false))),
m 6 38])
.ret))
(.seq (.reg [b 40 .eql (t 12) (i 2),
m 39 40])
(.cond (t 39)
(.seq (.reg [q 41 5 4,
l 42 41,
q 43 7 4,
⟨none,none,.store (t 43) (t 42) 1⟩])
(.seq (.reg [d 44 (.load (t 5) 5 true),
d 45 (.load (t 7) 5 true),
d 46 (.bin .eql (.agg [(0,.i),(1,.i),(2,.i),(3,.i),(4,.i)]) (t 44) (t 45)),
m 47 46,
⟨some 48,some (47,true),.fad (t 5) 4⟩,
⟨some 49,some (47,true),.load (t 48) 1 false⟩,
⟨some 50,some (47,true),.mv (t 0)⟩,
⟨some 51,some (47,true),.bin .lss .plain (t 49) (t 50)⟩,
d 52 (.pick (t 47) (t 51) (.cst (.bool false))),
m 6 52])
.ret))
(.seq (.reg [b 54 .eql (t 12) (i 5),
m 53 54])
(.cond (t 53)
(.seq (.draw [(q 55 5 4,0,[]),
(l 56 55,1,[]),
(q 57 5 2,2,[]),
(l 58 57,3,[]),
(q 59 7 4,4,[]),
(⟨none,none,.store (t 59) (t 56) 1⟩,5,[3]),
(q 60 7 2,6,[]),
(⟨none,none,.store (t 60) (t 58) 1⟩,7,[])])
(.seq (.reg [d 61 (.load (t 5) 5 true),
d 62 (.load (t 7) 5 true),
d 63 (.bin .eql (.agg [(0,.i),(1,.i),(2,.i),(3,.i),(4,.i)]) (t 61) (t 62)),
m 64 63,
⟨some 65,some (64,true),.fad (t 5) 4⟩,
⟨some 66,some (64,true),.load (t 65) 1 false⟩,
⟨some 67,some (64,true),.mv (t 0)⟩,
⟨some 68,some (64,true),.bin .lss .plain (t 66) (t 67)⟩,
d 69 (.pick (t 64) (t 68) (.cst (.bool false))),
m 70 69,
⟨some 71,some (70,true),.fad (t 5) 2⟩,
⟨some 72,some (70,true),.load (t 71) 1 false⟩,
⟨some 73,some (70,true),.bin .geq .plain (t 72) (i 0)⟩,
d 74 (.pick (t 70) (t 73) (.cst (.bool false))),
m 75 74,
⟨some 76,some (75,true),.fad (t 5) 2⟩,
⟨some 77,some (75,true),.load (t 76) 1 false⟩,
⟨some 78,some (75,true),.mv (t 1)⟩,
⟨some 79,some (75,true),.bin .lss .plain (t 77) (t 78)⟩,
d 80 (.pick (t 75) (t 79) (.cst (.bool false))),
m 6 80])
.ret))
(.seq (.seq (.reg [b 82 .eql (t 12) (i 3),
m 81 82])
(.cond (t 81)
.skip
(.seq (.reg [b 83 .eql (t 12) (i 4),
m 81 83])
(.cond (t 81)
.skip
(.reg [b 84 .eql (t 12) (i 6),
m 81 84])))))
(.cond (t 81)
(.seq (.draw [(q 85 5 2,0,[]),
(l 86 85,1,[]),
(q 87 5 3,2,[]),
(l 88 87,3,[]),
(q 89 7 2,4,[]),
(⟨none,none,.store (t 89) (t 86) 1⟩,5,[3]),
(q 90 7 3,6,[]),
(⟨none,none,.store (t 90) (t 88) 1⟩,7,[])])
(.seq (.reg [d 91 (.load (t 5) 5 true),
d 92 (.load (t 7) 5 true),
d 93 (.bin .eql (.agg [(0,.i),(1,.i),(2,.i),(3,.i),(4,.i)]) (t 91) (t 92)),
m 94 93,
⟨some 95,some (94,true),.fad (t 5) 2⟩,
⟨some 96,some (94,true),.load (t 95) 1 false⟩,
⟨some 97,some (94,true),.bin .geq .plain (t 96) (i 0)⟩,
d 98 (.pick (t 94) (t 97) (.cst (.bool false))),
m 99 98,
⟨some 100,some (99,true),.fad (t 5) 2⟩,
⟨some 101,some (99,true),.load (t 100) 1 false⟩,
⟨some 102,some (99,true),.mv (t 1)⟩,
⟨some 103,some (99,true),.bin .lss .plain (t 101) (t 102)⟩,
d 104 (.pick (t 99) (t 103) (.cst (.bool false))),
m 105 104,
⟨some 106,some (105,true),.fad (t 5) 3⟩,
⟨some 107,some (105,true),.load (t 106) 1 false⟩,
⟨some 108,some (105,true),.bin .geq .plain (t 107) (i 0)⟩,
d 109 (.pick (t 105) (t 108) (.cst (.bool false))),
m 110 109,
⟨some 111,some (110,true),.fad (t 5) 3⟩,
⟨some 112,some (110,true),.load (t 111) 1 false⟩,
⟨some 113,some (110,true),.mv (t 1)⟩,
⟨some 114,some (110,true),.bin .lss .plain (t 112) (t 113)⟩,
d 115 (.pick (t 110) (t 114) (.cst (.bool false))),
m 6 115])
.ret))
.skip))))))))))
(.seq (.reg [d 6 (.mv (.cst (.bool false)))])
.ret)))⟩
theorem tr42:trF Tryz.prog (y [] [] [] [(4,([0,1,0,4,3,19,63,127],[(0,[]),(1,[]),(2,[]),(3,[]),(4,[]),(5,[3]),(6,[]),(7,[])])),(10,([0,1,0,4,3,19,63,127],[(0,[]),(1,[]),(2,[]),(3,[]),(4,[]),(5,[3]),(6,[]),(7,[])])),(15,([0,1,0,4,3,19,63,127],[(0,[]),(1,[]),(2,[]),(3,[]),(4,[]),(5,[3]),(6,[]),(7,[])]))] false) Tryz.f42=some ir42:=by kernel_rfl
def ir43:IFn:=⟨129,[.tmp 4 false,.tmp 5 false],
.seq (.reg [d 2 (.box (t 0) false),
d 4 (.mv (.cst (.vec [] .full))),
d 5 (.mv (i 0))])
(.seq (.seq (.reg [d 12 (.load (t 2) 3 true),
k 13 18 [t 12],
d 14 (.un .not (t 13)),
m 15 14,
⟨some 16,some (15,false),.load (t 2) 3 true⟩,
⟨some 17,some (15,false),.mv (t 1)⟩,
⟨some 18,some (15,false),.call 72 [t 16,t 17]⟩,
⟨some 19,some (15,false),.un .not (t 18)⟩,
d 20 (.pick (t 15) (.cst (.bool true)) (t 19))])
(.cond (t 20)
(.seq (.reg [d 4 (.mv (.cst (.vec [] .full))),
d 5 (.mv (i 1))])
.ret)
.skip))
(.seq (.reg [d 21 (.load (t 2) 3 true),
m 22 1,
k 23 73 [t 21,t 22],
m 6 23])
(.seq (.reg [m 24 6,
d 25 (.len .i (t 24)),
d 26 (.mks (t 25) (t 25) 1 8 false [i0] true),
m 7 26])
(.seq (.reg [d 8 (.mv (.cst (.vec [] .full)))])
(.seq (.seq (.reg [d 9 (.mv (i 0))])
(.block 0
(.loop [2,6,7,8,9]
(.seq (.seq (.reg [m 27 9,
q 28 2 1,
l 29 28,
d 30 (.len .i (t 29)),
b 31 .lss (t 27) (t 30)])
(.cond (t 31)
.skip
(.brk 0)))
(.seq (.block 1
(.seq (.reg [q 34 2 1,
l 35 34,
m 36 9,
d 37 (.idxS (t 35) (t 36) 5),
d 38 (.load (t 37) 5 true),
d 10 (.allocz [i0,i0,i0,i0,w0] false),
⟨none,none,.store (t 10) (t 38) 5⟩])
(.seq (.reg [q 39 10 4,
l 40 39,
m 11 40])
(.seq (.seq (.reg [q 41 10 0,
l 42 41])
(.block 2
(.seq (.reg [b 44 .eql (t 42) (i 1),
m 43 44])
(.cond (t 43)
(.seq (.draw [(m 45 6,0,[]),
(q 46 10 1,1,[]),
(l 47 46,2,[]),
(b 48 .sub (t 47) (i 1),3,[]),
(d 49 (.idxS (t 45) (t 48) 1),4,[]),
(l 50 49,5,[]),
(m 51 7,6,[]),
(q 52 10 1,7,[]),
(l 53 52,8,[]),
(b 54 .sub (t 53) (i 1),9,[]),
(d 55 (.idxS (t 51) (t 54) 1),10,[]),
(l 56 55,11,[]),
(d 57 (.idxS (t 50) (t 56) 1),12,[]),
(l 58 57,13,[]),
(m 11 58,14,[])])
(.reg [m 59 7,
q 60 10 1,
l 61 60,
b 62 .sub (t 61) (i 1),
d 63 (.idxS (t 59) (t 62) 1),
l 64 63,
b 65 .add (t 64) (i 1),
d 66 (.idxS (t 59) (t 62) 1),
⟨none,none,.store (t 66) (t 65) 1⟩]))
(.seq (.reg [b 68 .eql (t 42) (i 3),
m 67 68])
(.cond (t 67)
(.draw [(q 69 2 0,0,[]),
(l 70 69,1,[]),
(m 71 8,2,[]),
(q 72 10 2,3,[]),
(l 73 72,4,[]),
(d 74 (.idxS (t 71) (t 73) 1),5,[]),
(l 75 74,6,[]),
(m 76 8,7,[]),
(q 77 10 3,8,[]),
(l 78 77,9,[]),
(d 79 (.idxS (t 76) (t 78) 1),10,[]),
(l 80 79,11,[]),
(k 81 74 [t 70,t 75,t 80],12,[]),
(m 11 81,13,[])])
(.seq (.reg [b 83 .eql (t 42) (i 4),
m 82 83])
(.cond (t 82)
(.draw [(q 84 2 0,0,[]),
(l 85 84,1,[]),
(m 86 8,2,[]),
(q 87 10 2,3,[]),
(l 88 87,4,[]),
(d 89 (.idxS (t 86) (t 88) 1),5,[]),
(l 90 89,6,[]),
(m 91 8,7,[]),
(q 92 10 3,8,[]),
(l 93 92,9,[]),
(d 94 (.idxS (t 91) (t 93) 1),10,[]),
(l 95 94,11,[]),
(k 96 75 [t 85,t 90,t 95],12,[]),
(m 11 96,13,[])])
(.seq (.reg [b 98 .eql (t 42) (i 5),
m 97 98])
(.cond (t 97)
(.draw [(q 99 2 0,0,[]),
(l 100 99,1,[]),
(q 101 10 4,2,[]),
(l 102 101,3,[]),
(m 103 8,4,[]),
(q 104 10 2,5,[]),
(l 105 104,6,[]),
(d 106 (.idxS (t 103) (t 105) 1),7,[]),
(l 107 106,8,[]),
(k 108 76 [t 100,t 102,t 107],9,[]),
(m 11 108,10,[])])
(.seq (.reg [b 110 .eql (t 42) (i 6),
m 109 110])
(.cond (t 109)
(.draw [(q 111 2 0,0,[]),
(l 112 111,1,[]),
(m 113 8,2,[]),
(q 114 10 2,3,[]),
(l 115 114,4,[]),
(d 116 (.idxS (t 113) (t 115) 1),5,[]),
(l 117 116,6,[]),
(m 118 8,7,[]),
(q 119 10 3,8,[]),
(l 120 119,9,[]),
(d 121 (.idxS (t 118) (t 120) 1),10,[]),
(l 122 121,11,[]),
(k 123 76 [t 112,t 117,t 122],12,[]),
(m 11 123,13,[])])
.skip))))))))))))
(.reg [m 124 8,
m 125 11,
d 126 (.bsl 1 1 false [w0] [(0,1,(t 125))]),
d 127 (.app (t 124) (t 126) 1 8 false false),
m 8 127])))))
(.reg [m 32 9,
b 33 .add (t 32) (i 1),
m 9 33]))))))
(.seq (.reg [m 128 8,
m 4 128,
d 5 (.mv (i 0))])
.ret))))))⟩
theorem tr43:trF Tryz.prog (y [26] [] [[2,6,7,8,9]] [(13,([0,0,2,6,15,31,0,0,128,384,960,1984,4095,8191,16383],[(0,[]),(1,[]),(2,[]),(3,[]),(4,[]),(5,[]),(6,[]),(7,[]),(8,[]),(9,[]),(10,[]),(11,[]),(12,[]),(13,[]),(14,[])])),(16,([0,1,0,0,8,28,60,0,0,256,896,1920,4095,8191],[(0,[]),(1,[]),(2,[]),(3,[]),(4,[]),(5,[]),(6,[]),(7,[]),(8,[]),(9,[]),(10,[]),(11,[]),(12,[]),(13,[])])),(18,([0,1,0,0,8,28,60,0,0,256,896,1920,4095,8191],[(0,[]),(1,[]),(2,[]),(3,[]),(4,[]),(5,[]),(6,[]),(7,[]),(8,[]),(9,[]),(10,[]),(11,[]),(12,[]),(13,[])])),(20,([0,1,0,4,0,0,32,112,240,511,1023],[(0,[]),(1,[]),(2,[]),(3,[]),(4,[]),(5,[]),(6,[]),(7,[]),(8,[]),(9,[]),(10,[])])),(22,([0,1,0,0,8,28,60,0,0,256,896,1920,4095,8191],[(0,[]),(1,[]),(2,[]),(3,[]),(4,[]),(5,[]),(6,[]),(7,[]),(8,[]),(9,[]),(10,[]),(11,[]),(12,[]),(13,[])]))] false) Tryz.f43=some ir43:=by kernel_rfl
def ir44:IFn:=⟨33,[.tmp 4 false,.tmp 5 false],
.seq (.reg [d 4 (.mv (.cst (.vec [] .full))),
d 5 (.mv (i 0))])
(.seq (.seq (.reg [m 8 1,
b 9 .lss (t 8) (i 1),
m 10 9,
⟨some 11,some (10,false),.mv (t 1)⟩,
⟨some 12,some (10,false),.bin .gtr .plain (t 11) (i 60)⟩,
d 13 (.pick (t 10) (.cst (.bool true)) (t 12)),
m 14 13,
⟨some 15,some (14,false),.mv (t 0)⟩,
⟨some 16,some (14,false),.call 77 [t 15]⟩,
⟨some 17,some (14,false),.mv (t 1)⟩,
⟨some 18,some (14,false),.bin .gtr .plain (t 16) (t 17)⟩,
d 19 (.pick (t 14) (.cst (.bool true)) (t 18))])
(.cond (t 19)
(.seq (.reg [d 4 (.mv (.cst (.vec [] .full))),
d 5 (.mv (i 2))])
.ret)
.skip))
(.seq (.reg [d 6 (.mv (.cst (.vec [] .full)))])
(.seq (.seq (.reg [d 7 (.mv (i 0))])
(.block 0
(.loop [0,1,6,7]
(.seq (.seq (.reg [m 20 7,
m 21 1,
b 22 .lss (t 20) (t 21)])
(.cond (t 22)
.skip
(.brk 0)))
(.seq (.block 1
(.seq (.reg [m 25 6,
m 26 0,
b 27 .rem (t 26) (w 2),
d 28 (.bsl 1 1 false [w0] [(0,1,(t 27))]),
d 29 (.app (t 25) (t 28) 1 8 false false),
m 6 29])
(.reg [m 30 0,
b 31 .quo (t 30) (w 2),
m 0 31])))
(.reg [m 23 7,
b 24 .add (t 23) (i 1),
m 7 24]))))))
(.seq (.reg [m 32 6,
m 4 32,
d 5 (.mv (i 0))])
.ret))))⟩
theorem tr44:trF Tryz.prog (y [] [] [[0,1,6,7]] [] false) Tryz.f44=some ir44:=by kernel_rfl
def ir45:IFn:=⟨28,[.tmp 2 false],
.seq (.reg [d 2 (.mv (.cst (.bool false)))])
(.seq (.reg [m 3 0,
d 4 (.len .s (t 3)),
b 5 .geq (t 4) (i 1),
m 6 5,
⟨some 7,some (6,true),.mv (t 0)⟩,
⟨some 8,some (6,true),.len .s (t 7)⟩,
⟨some 9,some (6,true),.bin .leq .plain (t 8) (i 20)⟩,
d 10 (.pick (t 6) (t 9) (.cst (.bool false))),
m 11 10,
⟨some 12,some (11,true),.mv (t 0)⟩,
⟨some 13,some (11,true),.idxStr (t 12) (i 0)⟩,
⟨some 14,some (11,true),.call 78 [t 13]⟩,
d 15 (.pick (t 11) (t 14) (.cst (.bool false))),
m 16 15,
⟨some 17,some (16,true),.mv (t 0)⟩,
⟨some 18,some (16,true),.call 79 [t 17,(.cst (.bool false))]⟩,
⟨some 19,some (16,true),.mv (t 0)⟩,
⟨some 20,some (16,true),.len .s (t 19)⟩,
⟨some 21,some (16,true),.bin .eql .plain (t 18) (t 20)⟩,
d 22 (.pick (t 16) (t 21) (.cst (.bool false))),
m 23 22,
⟨some 24,some (23,true),.mv (t 0)⟩,
⟨some 25,some (23,true),.call 80 [t 24]⟩,
⟨some 26,some (23,true),.un .not (t 25)⟩,
d 27 (.pick (t 23) (t 26) (.cst (.bool false))),
m 2 27])
.ret)⟩
theorem tr45:trF Tryz.prog y0 Tryz.f45=some ir45:=by kernel_rfl
def ir46:IFn:=⟨19,[.tmp 4 false],
.seq (.reg [d 4 (.mv (.cst (.bool false)))])
(.seq (.seq (.reg [d 5 (.mv (i 0))])
(.block 0
(.loop [0,1,5]
(.seq (.seq (.reg [m 6 5,
m 7 0,
d 8 (.len .i (t 7)),
b 9 .lss (t 6) (t 8)])
(.cond (t 9)
.skip
(.brk 0)))
(.seq (.block 1
(.seq (.reg [m 12 0,
m 13 5,
d 14 (.idxS (t 12) (t 13) 5),
d 15 (.load (t 14) 5 true),
m 16 1,
k 17 81 [t 15,t 16],
d 18 (.un .not (t 17))])
(.cond (t 18)
(.seq (.reg [d 4 (.mv (.cst (.bool false)))])
.ret)
.skip)))
(.reg [m 10 5,
b 11 .add (t 10) (i 1),
m 5 11]))))))
(.seq (.reg [d 4 (.mv (.cst (.bool true)))])
.ret))⟩
theorem tr46:trF Tryz.prog (y [] [] [[0,1,5]] [] false) Tryz.f46=some ir46:=by kernel_rfl
def ir47:IFn:=⟨77,[.tmp 2 false],
.seq (.reg [d 1 (.box (t 0) false),
d 2 (.mv (.cst s0))])
(.seq (.reg [d 3 (.mv (.cst s0))])
(.seq (.seq (.reg [d 4 (.mv (i 0))])
(.block 0
(.loop [1,3,4]
(.seq (.seq (.reg [m 8 4,
q 9 1 0,
l 10 9,
d 11 (.len .i (t 10)),
b 12 .lss (t 8) (t 11)])
(.cond (t 12)
.skip
(.brk 0)))
(.seq (.block 1
(.seq (.reg [q 15 1 0,
l 16 15,
m 17 4,
d 18 (.idxS (t 16) (t 17) 4),
d 19 (.load (t 18) 4 true),
d 5 (.allocz [s0,i0,i0,i0] false),
⟨none,none,.store (t 5) (t 19) 4⟩])
(.seq (.reg [d 6 (.mv (.cst s0))])
(.seq (.seq (.reg [q 20 5 3,
l 21 20,
b 22 .neq (t 21) (i 0)])
(.cond (t 22)
(.reg [q 23 5 3,
l 24 23,
k 25 82 [t 24],
b 26 .add (.cst (.str ⟨#[91]⟩)) (t 25),
b 27 .add (t 26) (.cst (.str ⟨#[93]⟩)),
m 6 27])
.skip))
(.draw [(m 28 3,0,[]),
(b 29 .add (t 28) (.cst (.str ⟨#[105,110,32]⟩)),1,[]),
(q 30 5 0,2,[]),
(l 31 30,3,[]),
(b 32 .add (t 29) (t 31),4,[]),
(m 33 6,5,[]),
(b 34 .add (t 32) (t 33),6,[]),
(b 35 .add (t 34) (.cst (.str ⟨#[32,102,114,111,109,32]⟩)),7,[]),
(q 36 5 1,8,[]),
(l 37 36,9,[]),
(q 41 5 2,13,[]),
(l 42 41,14,[]),
(k 38 82 [t 37],10,[3,11]),
(b 39 .add (t 35) (t 38),11,[]),
(b 40 .add (t 39) (.cst (.str ⟨#[58,32]⟩)),12,[]),
(k 43 82 [t 42],15,[3]),
(b 44 .add (t 40) (t 43),16,[]),
(b 45 .add (t 44) (.cst (.str ⟨#[59,10]⟩)),17,[]),
(m 3 45,18,[])])))))
(.reg [m 13 4,
b 14 .add (t 13) (i 1),
m 4 14]))))))
(.seq (.seq (.reg [d 7 (.mv (i 0))])
(.block 2
(.loop [1,3,7]
(.seq (.seq (.reg [m 46 7,
q 47 1 1,
l 48 47,
d 49 (.len .i (t 48)),
b 50 .lss (t 46) (t 49)])
(.cond (t 50)
.skip
(.brk 2)))
(.seq (.block 3
(.draw [(m 53 3,0,[]),
(b 54 .add (t 53) (.cst (.str ⟨#[97,114,114,97,121,32]⟩)),1,[]),
(q 55 1 1,2,[]),
(l 56 55,3,[]),
(m 57 7,4,[]),
(d 58 (.idxS (t 56) (t 57) 2),5,[]),
(q 59 58 0,6,[]),
(l 60 59,7,[]),
(b 61 .add (t 54) (t 60),8,[]),
(b 62 .add (t 61) (.cst (.str ⟨#[91]⟩)),9,[]),
(q 63 1 1,10,[]),
(l 64 63,11,[]),
(m 65 7,12,[]),
(d 66 (.idxS (t 64) (t 65) 2),13,[]),
(q 67 66 1,14,[]),
(l 68 67,15,[]),
(k 69 82 [t 68],16,[3,7]),
(b 70 .add (t 62) (t 69),17,[]),
(b 71 .add (t 70) (.cst (.str ⟨#[93,59,10]⟩)),18,[]),
(m 3 71,19,[])]))
(.reg [m 51 7,
b 52 .add (t 51) (i 1),
m 7 52]))))))
(.seq (.reg [m 72 3,
q 73 1 2,
l 74 73,
k 75 83 [t 74,(.cst s0)],
b 76 .add (t 72) (t 75),
m 2 76])
.ret))))⟩
theorem tr47:trF Tryz.prog (y [] [] [[1,3,4],[1,3,7]] [(9,([0,1,0,4,15,0,63,127,0,256,768,2047,4095,0,8192,26368,65535,131071,262143],[(0,[]),(1,[]),(2,[]),(3,[]),(4,[]),(5,[]),(6,[]),(7,[]),(8,[]),(9,[]),(13,[]),(14,[]),(10,[3,11]),(11,[]),(12,[]),(15,[3]),(16,[]),(17,[]),(18,[])])),(13,([0,1,0,4,0,28,60,124,255,511,0,1024,0,7168,15360,31744,64512,131071,262143,524287],[(0,[]),(1,[]),(2,[]),(3,[]),(4,[]),(5,[]),(6,[]),(7,[]),(8,[]),(9,[]),(10,[]),(11,[]),(12,[]),(13,[]),(14,[]),(15,[]),(16,[3,7]),(17,[]),(18,[]),(19,[])]))] false) Tryz.f47=some ir47:=by kernel_rfl
def ir48:IFn:=⟨36,[.tmp 2 false],
.seq (.reg [d 2 (.mv (i 0))])
(.seq (.reg [m 5 0,
d 6 (.len .i (t 5)),
m 3 6])
(.seq (.seq (.reg [d 4 (.mv (i 0))])
(.block 0
(.loop [0,3,4]
(.seq (.seq (.reg [m 7 4,
m 8 0,
d 9 (.len .i (t 8)),
b 10 .lss (t 7) (t 9)])
(.cond (t 10)
.skip
(.brk 0)))
(.seq (.block 1
(.draw [(m 13 3,0,[]),
(m 14 0,1,[]),
(m 15 4,2,[]),
(d 16 (.idxS (t 14) (t 15) 5),3,[]),
(q 17 16 2,4,[]),
(l 18 17,5,[]),
(m 21 0,8,[]),
(m 22 4,9,[]),
(d 23 (.idxS (t 21) (t 22) 5),10,[]),
(q 24 23 3,11,[]),
(l 25 24,12,[]),
(m 28 0,15,[]),
(m 29 4,16,[]),
(d 30 (.idxS (t 28) (t 29) 5),17,[]),
(q 31 30 4,18,[]),
(l 32 31,19,[]),
(k 19 84 [t 18],6,[10,15]),
(b 20 .add (t 13) (t 19),7,[]),
(k 26 48 [t 25],13,[15]),
(b 27 .add (t 20) (t 26),14,[]),
(k 33 48 [t 32],20,[]),
(b 34 .add (t 27) (t 33),21,[]),
(m 3 34,22,[])]))
(.reg [m 11 4,
b 12 .add (t 11) (i 1),
m 4 12]))))))
(.seq (.reg [m 35 3,
m 2 35])
.ret)))⟩
theorem tr48:trF Tryz.prog (y [] [] [[0,3,4]] [(5,([0,0,0,6,14,30,62,127,0,0,768,1792,3840,8062,16383,0,0,98304,229376,491520,1032062,2097151,4194303],[(0,[]),(1,[]),(2,[]),(3,[]),(4,[]),(5,[]),(8,[]),(9,[]),(10,[]),(11,[]),(12,[]),(15,[]),(16,[]),(17,[]),(18,[]),(19,[]),(6,[10,15]),(7,[]),(13,[15]),(14,[]),(20,[]),(21,[]),(22,[])]))] false) Tryz.f48=some ir48:=by kernel_rfl
def ir49:IFn:=⟨11,[.tmp 2 false],
.seq (.reg [d 1 (.box (t 0) false),
d 2 (.mv (i 0))])
(.seq (.reg [d 6 (.load (t 1) 3 true),
k 7 50 [t 6],
m 5 7,
d 8 (.ext (t 5) 0),
d 9 (.ext (t 5) 1),
m 3 8,
m 4 9])
(.seq (.reg [m 10 4,
m 2 10])
.ret))⟩
theorem tr49:trF Tryz.prog y0 Tryz.f49=some ir49:=by kernel_rfl
def ir50:IFn:=⟨72,[.tmp 2 false,.tmp 3 false],
.seq (.reg [d 1 (.box (t 0) false),
d 2 (.mv (.cst .nilptr)),
d 3 (.mv (i 0))])
(.seq (.reg [d 9 (.load (t 1) 3 true),
d 10 (.bld [(.vec [] .full),(.vec [] .full),(.vec [] .full),(.vec [] .full),(.vec [] .full),(.vec [] .full),i0,i0,i0] [(0,3,(t 9))]),
d 11 (.box (t 10) true),
m 4 11])
(.seq (.seq (.reg [d 12 (.load (t 1) 3 true),
k 13 85 [t 12],
d 14 (.un .not (t 13))])
(.cond (t 14)
(.seq (.reg [m 15 4,
m 2 15,
d 3 (.mv (i 4))])
.ret)
.skip))
(.seq (.seq (.reg [d 5 (.mv (i 0))])
(.block 0
(.loop [1,4,5]
(.seq (.seq (.reg [m 16 5,
q 17 1 0,
l 18 17,
d 19 (.len .i (t 18)),
b 20 .lss (t 16) (t 19)])
(.cond (t 20)
.skip
(.brk 0)))
(.seq (.block 1
(.draw [(m 23 4,0,[]),
(m 24 4,1,[]),
(d 25 (.nilc (t 24)),2,[]),
(q 26 25 7,3,[]),
(l 27 26,4,[]),
(q 28 1 0,5,[]),
(l 29 28,6,[]),
(m 30 5,7,[]),
(d 31 (.idxS (t 29) (t 30) 4),8,[]),
(q 32 31 2,9,[]),
(l 33 32,10,[]),
(d 34 (.max [t 27,t 33]),11,[]),
(d 35 (.nilc (t 23)),12,[]),
(q 36 35 7,13,[]),
(⟨none,none,.store (t 36) (t 34) 1⟩,14,[])]))
(.reg [m 21 5,
b 22 .add (t 21) (i 1),
m 5 22]))))))
(.seq (.seq (.reg [d 6 (.mv (i 0))])
(.block 2
(.loop [1,4,6]
(.seq (.seq (.reg [m 37 6,
q 38 1 1,
l 39 38,
d 40 (.len .i (t 39)),
b 41 .lss (t 37) (t 40)])
(.cond (t 41)
.skip
(.brk 2)))
(.seq (.block 3
(.seq (.reg [d 7 (.mv (.cst (.vec [] .full)))])
(.seq (.seq (.reg [d 8 (.mv (i 0))])
(.block 4
(.loop [1,4,6,7,8]
(.seq (.seq (.reg [m 44 8,
q 45 1 1,
l 46 45,
m 47 6,
d 48 (.idxS (t 46) (t 47) 2),
q 49 48 1,
l 50 49,
b 51 .lss (t 44) (t 50)])
(.cond (t 51)
.skip
(.brk 4)))
(.seq (.block 5
(.reg [m 54 7,
d 55 (.bsl 1 1 false [i0] [(0,1,(i 1))]),
d 56 (.app (t 54) (t 55) 1 8 false true),
m 7 56]))
(.reg [m 52 8,
b 53 .add (t 52) (i 1),
m 8 53]))))))
(.reg [m 57 4,
m 58 4,
d 59 (.nilc (t 58)),
q 60 59 5,
l 61 60,
m 62 7,
d 63 (.bsl 1 1 false [v0] [(0,1,(t 62))]),
d 64 (.app (t 61) (t 63) 1 24 false true),
d 65 (.nilc (t 57)),
q 66 65 5,
⟨none,none,.store (t 66) (t 64) 1⟩]))))
(.reg [m 42 6,
b 43 .add (t 42) (i 1),
m 6 43]))))))
(.seq (.reg [m 67 4,
m 68 4,
q 69 1 2,
l 70 69,
k 71 86 [t 68,t 70],
m 2 67,
m 3 71])
.ret)))))⟩
theorem tr50:trF Tryz.prog (y [11,64,56,10] [] [[1,4,5],[1,4,6],[1,4,6,7,8]] [(7,([0,0,2,6,14,0,32,0,224,480,992,2046,4095,8191,16383],[(0,[]),(1,[]),(2,[]),(3,[]),(4,[]),(5,[]),(6,[]),(7,[]),(8,[]),(9,[]),(10,[]),(11,[]),(12,[]),(13,[]),(14,[])]))] false) Tryz.f50=some ir50:=by kernel_rfl
def ir54:IFn:=⟨91,[.tmp 4 false],
.seq (.reg [d 2 (.box (t 0) false),
d 4 (.mv (.cst (.bool false)))])
(.seq (.reg [m 11 1,
d 12 (.len .i (t 11)),
d 13 (.mks (t 12) (t 12) 1 8 false [i0] true),
m 5 13])
(.seq (.seq (.reg [d 6 (.mv (i 0))])
(.block 0
(.loop [1,2,5,6]
(.seq (.seq (.reg [m 14 6,
q 15 2 0,
l 16 15,
d 17 (.len .i (t 16)),
b 18 .lss (t 14) (t 17)])
(.cond (t 18)
.skip
(.brk 0)))
(.seq (.block 1
(.seq (.reg [q 21 2 0,
l 22 21,
m 23 6,
d 24 (.idxS (t 22) (t 23) 4),
d 25 (.load (t 24) 4 true),
d 7 (.allocz [s0,i0,i0,i0] false),
⟨none,none,.store (t 7) (t 25) 4⟩])
(.seq (.seq (.reg [q 26 7 1,
l 27 26,
m 28 1,
d 29 (.len .i (t 28)),
b 30 .gtr (t 27) (t 29)])
(.cond (t 30)
(.seq (.reg [d 4 (.mv (.cst (.bool false)))])
.ret)
.skip))
(.seq (.reg [d 8 (.mv (i 0))])
(.block 2
(.loop [1,2,5,6,7,8]
(.seq (.seq (.reg [m 31 8,
d 32 (.load (t 7) 4 true),
k 33 34 [t 32],
b 34 .lss (t 31) (t 33)])
(.cond (t 34)
.skip
(.brk 2)))
(.seq (.block 3
(.seq (.reg [m 37 1,
q 38 7 1,
l 39 38,
b 40 .sub (t 39) (i 1),
d 41 (.idxS (t 37) (t 40) 1),
l 42 41,
m 9 42])
(.seq (.seq (.draw [(m 43 5,0,[]),
(q 44 7 1,1,[]),
(l 45 44,2,[]),
(b 46 .sub (t 45) (i 1),3,[]),
(d 47 (.idxS (t 43) (t 46) 1),4,[]),
(l 48 47,5,[]),
(m 49 9,6,[]),
(d 50 (.len .i (t 49)),7,[]),
(b 51 .geq (t 48) (t 50),8,[]),
(m 52 51,9,[]),
(⟨some 53,some (52,false),.mv (t 9)⟩,10,[]),
(⟨some 54,some (52,false),.mv (t 5)⟩,11,[]),
(⟨some 55,some (52,false),.fad (t 7) 1⟩,12,[]),
(⟨some 56,some (52,false),.load (t 55) 1 false⟩,13,[]),
(⟨some 57,some (52,false),.bin .sub .plain (t 56) (i 1)⟩,14,[]),
(⟨some 58,some (52,false),.idxS (t 54) (t 57) 1⟩,15,[]),
(⟨some 59,some (52,false),.load (t 58) 1 false⟩,16,[]),
(⟨some 60,some (52,false),.idxS (t 53) (t 59) 1⟩,17,[]),
(⟨some 61,some (52,false),.load (t 60) 1 false⟩,18,[]),
(⟨some 63,some (52,false),.fad (t 7) 2⟩,20,[]),
(⟨some 64,some (52,false),.load (t 63) 1 false⟩,21,[]),
(⟨some 62,some (52,false),.call 77 [t 61]⟩,19,[20]),
(⟨some 65,some (52,false),.bin .gtr .plain (t 62) (t 64)⟩,22,[]),
(d 66 (.pick (t 52) (.cst (.bool true)) (t 65)),23,[])])
(.cond (t 66)
(.seq (.reg [d 4 (.mv (.cst (.bool false)))])
.ret)
.skip))
(.reg [m 67 5,
q 68 7 1,
l 69 68,
b 70 .sub (t 69) (i 1),
d 71 (.idxS (t 67) (t 70) 1),
l 72 71,
b 73 .add (t 72) (i 1),
d 74 (.idxS (t 67) (t 70) 1),
⟨none,none,.store (t 74) (t 73) 1⟩]))))
(.reg [m 35 8,
b 36 .add (t 35) (i 1),
m 8 36])))))))))
(.reg [m 19 6,
b 20 .add (t 19) (i 1),
m 6 20]))))))
(.seq (.seq (.reg [d 10 (.mv (i 0))])
(.block 4
(.loop [1,5,10]
(.seq (.seq (.reg [m 75 10,
m 76 1,
d 77 (.len .i (t 76)),
b 78 .lss (t 75) (t 77)])
(.cond (t 78)
.skip
(.brk 4)))
(.seq (.block 5
(.seq (.draw [(m 81 5,0,[]),
(m 82 10,1,[]),
(d 83 (.idxS (t 81) (t 82) 1),2,[]),
(l 84 83,3,[]),
(m 85 1,4,[]),
(m 86 10,5,[]),
(d 87 (.idxS (t 85) (t 86) 1),6,[]),
(l 88 87,7,[]),
(d 89 (.len .i (t 88)),8,[]),
(b 90 .neq (t 84) (t 89),9,[])])
(.cond (t 90)
(.seq (.reg [d 4 (.mv (.cst (.bool false)))])
.ret)
.skip)))
(.reg [m 79 10,
b 80 .add (t 79) (i 1),
m 10 80]))))))
(.seq (.reg [d 4 (.mv (.cst (.bool true)))])
.ret))))⟩
theorem tr54:trF Tryz.prog (y [13] [] [[1,2,5,6],[1,2,5,6,7,8],[1,5,10]] [(12,([0,0,2,6,15,31,0,64,255,511,1023,1023,1023,5119,13311,31743,64511,131071,262143,524287,1023,1049599,4194303,8388607],[(0,[]),(1,[]),(2,[]),(3,[]),(4,[]),(5,[]),(6,[]),(7,[]),(8,[]),(9,[]),(10,[]),(11,[]),(12,[]),(13,[]),(14,[]),(15,[]),(16,[]),(17,[]),(18,[]),(20,[]),(21,[]),(19,[20]),(22,[]),(23,[])])),(18,([0,0,3,7,0,0,48,112,240,511],[(0,[]),(1,[]),(2,[]),(3,[]),(4,[]),(5,[]),(6,[]),(7,[]),(8,[]),(9,[])]))] false) Tryz.f54=some ir54:=by kernel_rfl
def ir58:IFn:=⟨96,[.cell 2 1 false false,.cell 3 1 false false],
.seq (.reg [d 1 (.box (t 0) false),
d 2 (.allocz [i0] true),
d 3 (.allocz [i0] true)])
(.seq (.reg [d 10 (.mkM),
d 11 (.mkM),
d 12 (.mkM),
d 13 (.mkM),
d 14 (.mkM),
d 15 (.bld [.nilmap,.nilmap,.nilmap,.nilmap,.nilmap,i0,i0,i0] [(0,1,(t 10)),(1,1,(t 11)),(2,1,(t 12)),(3,1,(t 13)),(4,1,(t 14))]),
d 16 (.box (t 15) true),
m 4 16])
(.seq (.seq (.reg [q 17 1 0,
l 18 17,
d 19 (.len .i (t 18)),
d 20 (.mv (i 0))])
(.block 0
(.loop [1,2,3,4,18,19,20]
(.seq (.reg [b 21 .lss (t 20) (t 19)])
(.seq (.cond (t 21)
.skip
(.brk 0))
(.seq (.block 1
(.seq (.reg [d 22 (.idxS (t 18) (t 20) 4),
d 23 (.load (t 22) 4 true),
d 6 (.allocz [s0,i0,i0,i0] false),
⟨none,none,.store (t 6) (t 23) 4⟩])
(.seq (.seq (.reg [m 24 4,
q 25 6 0,
l 26 25,
k 27 95 [t 24,t 26]])
(.cond (t 27)
(.reg [k 28 96 [i 4]])
.skip))
(.seq (.draw [(m 29 4,0,[]),
(d 30 (.nilc (t 29)),1,[]),
(q 31 30 0,2,[]),
(l 32 31,3,[]),
(q 33 6 0,4,[]),
(l 34 33,5,[]),
(d 35 (.load (t 6) 4 true),6,[]),
(⟨none,none,.mup .s (t 32) (t 34) (t 35)⟩,7,[])])
(.draw [(m 36 4,0,[]),
(m 37 4,1,[]),
(d 38 (.nilc (t 37)),2,[]),
(q 39 38 6,3,[]),
(l 40 39,4,[]),
(q 41 6 2,5,[]),
(l 42 41,6,[]),
(d 43 (.max [t 40,t 42]),7,[]),
(d 44 (.nilc (t 36)),8,[]),
(q 45 44 6,9,[]),
(⟨none,none,.store (t 45) (t 43) 1⟩,10,[])])))))
(.reg [b 46 .add (t 20) (i 1),
m 20 46])))))))
(.seq (.seq (.reg [q 47 1 1,
l 48 47,
d 49 (.len .i (t 48)),
d 50 (.mv (i 0))])
(.block 2
(.loop [1,2,3,4,48,49,50]
(.seq (.reg [b 51 .lss (t 50) (t 49)])
(.seq (.cond (t 51)
.skip
(.brk 2))
(.seq (.block 3
(.seq (.reg [d 52 (.idxS (t 48) (t 50) 2),
d 53 (.load (t 52) 2 true),
d 8 (.allocz [s0,i0] false),
⟨none,none,.store (t 8) (t 53) 2⟩])
(.seq (.seq (.reg [m 54 4,
q 55 8 0,
l 56 55,
k 57 95 [t 54,t 56]])
(.cond (t 57)
(.reg [k 58 96 [i 4]])
.skip))
(.seq (.draw [(m 59 4,0,[]),
(d 60 (.nilc (t 59)),1,[]),
(q 61 60 1,2,[]),
(l 62 61,3,[]),
(q 63 8 0,4,[]),
(l 64 63,5,[]),
(q 65 8 1,6,[]),
(l 66 65,7,[]),
(⟨none,none,.mup .s (t 62) (t 64) (t 66)⟩,8,[])])
(.seq (.reg [q 67 8 1,
l 68 67,
d 69 (.mv (i 0))])
(.block 4
(.loop [1,2,3,4,8,48,49,50,68,69]
(.seq (.reg [b 70 .lss (t 69) (t 68)])
(.seq (.cond (t 70)
.skip
(.brk 4))
(.seq (.block 5
(.draw [(m 71 4,0,[]),
(d 72 (.nilc (t 71)),1,[]),
(q 73 72 3,2,[]),
(l 74 73,3,[]),
(q 75 8 0,4,[]),
(l 76 75,5,[]),
(m 77 4,6,[]),
(d 78 (.nilc (t 77)),7,[]),
(q 79 78 3,8,[]),
(l 80 79,9,[]),
(q 81 8 0,10,[]),
(l 82 81,11,[]),
(d 83 (.lkp .s (t 80) (t 82) (.vec [] .full) false),12,[]),
(d 84 (.bsl 1 1 false [i0] [(0,1,(i 1))]),13,[]),
(d 85 (.app (t 83) (t 84) 1 8 false true),14,[3,5]),
(⟨none,none,.mup .s (t 74) (t 76) (t 85)⟩,15,[])]))
(.reg [b 86 .add (t 69) (i 1),
m 69 86])))))))))))
(.reg [b 87 .add (t 50) (i 1),
m 50 87])))))))
(.seq (.reg [m 88 4,
q 89 1 2,
l 90 89,
k 91 97 [t 88,t 90]])
(.seq (.reg [m 92 4,
d 93 (.nilc (t 92)),
q 94 93 6,
l 95 94,
⟨none,none,.store (t 2) (t 95) 1⟩,
⟨none,none,.store (t 3) (i 0) 1⟩])
.ret)))))⟩
def hs58:Hints:={ obj:=[2,3,16,85,15],bare:=[],loops:=[[1,2,3,4,18,19,20],[1,2,3,4,48,49,50],[1,2,3,4,8,48,49,50,68,69]],draws:=[(8,([0,1,3,7,0,16,0,127],[(0,[]),(1,[]),(2,[]),(3,[]),(4,[]),(5,[]),(6,[]),(7,[])])),(9,([0,0,2,6,14,0,32,126,255,511,1023],[(0,[]),(1,[]),(2,[]),(3,[]),(4,[]),(5,[]),(6,[]),(7,[]),(8,[]),(9,[]),(10,[])])),(16,([0,1,3,7,0,16,0,64,255],[(0,[]),(1,[]),(2,[]),(3,[]),(4,[]),(5,[]),(6,[]),(7,[]),(8,[])])),(19,([0,1,3,7,0,16,0,64,192,448,0,1024,4032,0,16320,32767],[(0,[]),(1,[]),(2,[]),(3,[]),(4,[]),(5,[]),(6,[]),(7,[]),(8,[]),(9,[]),(10,[]),(11,[]),(12,[]),(13,[]),(14,[3,5]),(15,[])]))],glob:=Zgv,fresh:=false }
theorem tr58:trD Go.Proofs.Tryz.prog (hs58) 4 Go.Proofs.Tryz.f58=some ir58:=by kernel_rfl
def ir59:IFn:=⟨16,[.tmp 2 false],
.seq (.reg [d 2 (.mv (i 0))])
(.seq (.seq (.reg [d 5 (.load (.glob 0 [(.int .i64 5),(.int .i64 7),(.int .i64 13),(.int .i64 17),(.int .i64 19),(.int .i64 31),(.int .i64 61)]) 7 true),
d 6 (.mv (i 0))])
(.block 0
(.loop [0,5,6]
(.seq (.reg [b 7 .lss (t 6) (i 7)])
(.seq (.cond (t 7)
.skip
(.brk 0))
(.seq (.block 1
(.seq (.reg [d 8 (.idxA (t 5) (t 6) 7 1 false),
m 4 8])
(.seq (.reg [m 9 0,
m 10 4,
b 11 .shl (w 1) (t 10),
b 12 .sub (t 11) (w 1),
b 13 .eql (t 9) (t 12)])
(.cond (t 13)
(.seq (.reg [m 14 4,
m 2 14])
.ret)
.skip))))
(.reg [b 15 .add (t 6) (i 1),
m 6 15])))))))
(.seq (.reg [d 2 (.mv (i 0))])
.ret))⟩
theorem tr59:trF Tryz.prog (y [] [] [[0,5,6]] [] false) Tryz.f59=some ir59:=by kernel_rfl
def ir61:IFn:=⟨6,[.tmp 2 false],
.seq (.reg [d 2 (.mv (.cst .nilptr))])
(.seq (.reg [m 3 0,
d 4 (.bld [w0,(.vec [] .full),(.vec [] .full)] [(0,1,(t 3))]),
d 5 (.box (t 4) true),
m 2 5])
.ret)⟩
theorem tr61:trF Tryz.prog (y [5,4] [] [] [] false) Tryz.f61=some ir61:=by kernel_rfl
def ir62:IFn:=⟨64,[],
.seq (.reg [d 3 (.box (t 1) false)])
(.seq (.reg [q 8 3 0,
l 9 8,
d 10 (.len .i (t 9)),
d 11 (.mv (i 0))])
(.block 0
(.loop [0,9,10,11]
(.seq (.reg [b 12 .lss (t 11) (t 10)])
(.seq (.cond (t 12)
.skip
(.brk 0))
(.seq (.block 1
(.seq (.reg [d 13 (.idxS (t 9) (t 11) 4),
d 14 (.load (t 13) 4 true),
d 5 (.allocz [s0,i0,i0,i0] false),
⟨none,none,.store (t 5) (t 14) 4⟩])
(.seq (.reg [d 6 (.mv (.cst (.vec [] .full)))])
(.seq (.seq (.reg [q 15 5 3,
l 16 15,
d 17 (.max [t 16,i 1]),
d 18 (.mv (i 0))])
(.block 2
(.loop [0,5,6,9,10,11,17,18]
(.seq (.reg [b 19 .lss (t 18) (t 17)])
(.seq (.cond (t 19)
.skip
(.brk 2))
(.seq (.block 3
(.seq (.reg [d 7 (.allocz [(.bool false),(.vec [] .full),(.bool false),w0] false)])
(.seq (.seq (.reg [q 20 5 2,
l 21 20,
d 22 (.mv (i 0))])
(.block 4
(.loop [0,5,6,7,9,10,11,17,18,21,22]
(.seq (.reg [b 23 .lss (t 22) (t 21)])
(.seq (.cond (t 23)
.skip
(.brk 4))
(.seq (.block 5
(.seq (.reg [m 24 0,
k 25 63 [t 24,i 1]])
(.draw [(q 26 7 1,0,[]),
(l 27 26,1,[]),
(m 28 0,2,[]),
(d 29 (.nilc (t 28)),3,[]),
(q 30 29 1,4,[]),
(l 31 30,5,[]),
(q 32 5 1,6,[]),
(l 33 32,7,[]),
(k 34 98 [t 31,t 33,(.cst (.bool true))],8,[1]),
(d 35 (.bsl 1 1 false [i0] [(0,1,(t 34))]),9,[]),
(d 36 (.app (t 27) (t 35) 1 8 false false),10,[]),
(q 37 7 1,11,[]),
(⟨none,none,.store (t 37) (t 36) 1⟩,12,[])])))
(.reg [b 38 .add (t 22) (i 1),
m 22 38])))))))
(.reg [m 39 6,
d 40 (.load (t 7) 4 true),
d 41 (.bsl 1 4 true [(.bool false),v0,(.bool false),w0] [(0,4,(t 40))]),
d 42 (.app (t 39) (t 41) 4 48 true false),
m 6 42]))))
(.reg [b 43 .add (t 18) (i 1),
m 18 43])))))))
(.seq (.reg [q 44 5 3,
l 45 44,
b 46 .gtr (t 45) (i 0)])
(.cond (t 46)
(.draw [(m 47 0,0,[]),
(d 48 (.nilc (t 47)),1,[]),
(q 49 48 5,2,[]),
(l 50 49,3,[]),
(q 51 5 0,4,[]),
(l 52 51,5,[]),
(m 53 6,6,[]),
(⟨none,none,.mup .s (t 50) (t 52) (t 53)⟩,7,[])])
(.draw [(m 54 0,0,[]),
(d 55 (.nilc (t 54)),1,[]),
(q 56 55 4,2,[]),
(l 57 56,3,[]),
(q 58 5 0,4,[]),
(l 59 58,5,[]),
(m 60 6,6,[]),
(d 61 (.idxS (t 60) (i 0) 4),7,[]),
(d 62 (.load (t 61) 4 true),8,[]),
(⟨none,none,.mup .s (t 57) (t 59) (t 62)⟩,9,[])])))))))
(.reg [b 63 .add (t 11) (i 1),
m 11 63])))))))⟩
theorem tr62:trF Tryz.prog (y [] [] [[0,9,10,11],[0,5,6,9,10,11,17,18],[0,5,6,7,9,10,11,17,18,21,22]] [(11,([0,1,0,4,12,28,0,64,252,508,1023,2047,4095],[(0,[]),(1,[]),(2,[]),(3,[]),(4,[]),(5,[]),(6,[]),(7,[]),(8,[1]),(9,[]),(10,[]),(11,[]),(12,[])])),(16,([0,1,3,7,0,16,0,127],[(0,[]),(1,[]),(2,[]),(3,[]),(4,[]),(5,[]),(6,[]),(7,[])])),(17,([0,1,3,7,0,16,0,64,192,511],[(0,[]),(1,[]),(2,[]),(3,[]),(4,[]),(5,[]),(6,[]),(7,[]),(8,[]),(9,[])]))] false) Tryz.f62=some ir62:=by kernel_rfl
def ir63:IFn:=⟨19,[],
.seq (.reg [m 4 0,
d 5 (.nilc (t 4)),
q 6 5 7,
l 7 6,
m 8 1,
b 9 .add (t 7) (t 8),
d 10 (.nilc (t 4)),
q 11 10 7,
⟨none,none,.store (t 11) (t 9) 1⟩])
(.seq (.reg [m 12 0,
d 13 (.nilc (t 12)),
q 14 13 7,
l 15 14,
b 16 .gtr (t 15) (i 20000)])
(.cond (t 16)
(.reg [d 17 (.bld [] []),
d 18 (.mkI 115 (t 17)),
⟨none,none,.pan (t 18)⟩])
.skip))⟩
theorem tr63:trF Tryz.prog y0 Tryz.f63=some ir63:=by kernel_rfl
def ir64:IFn:=⟨9,[.tmp 4 false],
.seq (.reg [d 4 (.mv (i 0))])
(.seq (.reg [m 5 0,
m 6 1,
d 7 (.bld [i0,i0,i0,i0,w0] [(0,1,(i 2)),(4,1,(t 6))]),
k 8 99 [t 5,t 7],
m 4 8])
.ret)⟩
theorem tr64:trF Tryz.prog y0 Tryz.f64=some ir64:=by kernel_rfl
def ir65:IFn:=⟨6,[.cell 2 4 true false],
.seq (.reg [d 1 (.box (t 0) false),
d 2 (.allocz [(.bool false),(.vec [] .full),(.bool false),w0] false)])
(.seq (.reg [q 3 1 2,
⟨none,none,.store (t 3) (.cst (.bool false)) 1⟩,
q 4 1 3,
⟨none,none,.store (t 4) (w 0) 1⟩])
(.seq (.reg [d 5 (.load (t 1) 4 true),
⟨none,none,.store (t 2) (t 5) 4⟩])
.ret))⟩
theorem tr65:trF Tryz.prog y0 Tryz.f65=some ir65:=by kernel_rfl
def ir66:IFn:=⟨48,[.cell 6 4 true false],
.seq (.reg [d 6 (.allocz [(.bool false),(.vec [] .full),(.bool false),w0] false)])
(.seq (.reg [m 13 1,
m 14 2,
k 15 40 [t 13,t 14],
m 12 15,
d 16 (.ext (t 12) 0),
d 17 (.ext (t 12) 1),
m 7 16,
m 8 17])
(.seq (.reg [m 18 1,
d 19 (.bld [(.bool false),v0,(.bool false),w0] [(2,1,(.cst (.bool true))),(3,1,(t 18))]),
d 9 (.allocz [(.bool false),(.vec [] .full),(.bool false),w0] false),
⟨none,none,.store (t 9) (t 19) 4⟩])
(.seq (.seq (.reg [m 20 7,
d 21 (.len .i (t 20)),
d 22 (.mv (i 0))])
(.block 0
(.loop [0,6,9,20,21,22]
(.seq (.reg [b 23 .lss (t 22) (t 21)])
(.seq (.cond (t 23)
.skip
(.brk 0))
(.seq (.block 1
(.seq (.reg [d 24 (.idxS (t 20) (t 22) 1),
l 25 24,
m 11 25])
(.seq (.reg [m 26 11,
b 27 .eql (t 26) (w 1)])
(.cond (t 27)
(.draw [(q 28 9 1,0,[]),
(l 29 28,1,[]),
(m 30 0,2,[]),
(d 31 (.nilc (t 30)),3,[]),
(q 32 31 3,4,[]),
(l 33 32,5,[]),
(d 34 (.bsl 1 1 false [i0] [(0,1,(t 33))]),6,[]),
(d 35 (.app (t 29) (t 34) 1 8 false false),7,[]),
(q 36 9 1,8,[]),
(⟨none,none,.store (t 36) (t 35) 1⟩,9,[])])
(.draw [(q 37 9 1,0,[]),
(l 38 37,1,[]),
(m 39 0,2,[]),
(d 40 (.nilc (t 39)),3,[]),
(q 41 40 2,4,[]),
(l 42 41,5,[]),
(d 43 (.bsl 1 1 false [i0] [(0,1,(t 42))]),6,[]),
(d 44 (.app (t 38) (t 43) 1 8 false false),7,[]),
(q 45 9 1,8,[]),
(⟨none,none,.store (t 45) (t 44) 1⟩,9,[])])))))
(.reg [b 46 .add (t 22) (i 1),
m 22 46])))))))
(.seq (.reg [d 47 (.load (t 9) 4 true),
⟨none,none,.store (t 6) (t 47) 4⟩])
.ret))))⟩
theorem tr66:trF Tryz.prog (y [] [] [[0,6,9,20,21,22]] [(7,([0,1,0,4,12,28,60,127,255,511],[(0,[]),(1,[]),(2,[]),(3,[]),(4,[]),(5,[]),(6,[]),(7,[]),(8,[]),(9,[])])),(8,([0,1,0,4,12,28,60,127,255,511],[(0,[]),(1,[]),(2,[]),(3,[]),(4,[]),(5,[]),(6,[]),(7,[]),(8,[]),(9,[])]))] false) Tryz.f66=some ir66:=by kernel_rfl
def ir67:IFn:=⟨16,[],
.seq (.reg [m 6 1,
d 7 (.len .i (t 6)),
d 8 (.mv (i 0))])
(.block 0
(.loop [0,6,7,8]
(.seq (.reg [b 9 .lss (t 8) (t 7)])
(.seq (.cond (t 9)
.skip
(.brk 0))
(.seq (.block 1
(.seq (.reg [d 10 (.idxS (t 6) (t 8) 5),
d 11 (.load (t 10) 5 true),
d 5 (.allocz [i0,s0,(.vec [] .full),(.vec [] .full),(.vec [] .full)] false),
⟨none,none,.store (t 5) (t 11) 5⟩])
(.reg [m 12 0,
d 13 (.load (t 5) 5 true),
k 14 100 [t 12,t 13]])))
(.reg [b 15 .add (t 8) (i 1),
m 8 15]))))))⟩
theorem tr67:trF Tryz.prog (y [] [] [[0,6,7,8]] [] false) Tryz.f67=some ir67:=by kernel_rfl
def ir68:IFn:=⟨18,[.cell 2 3 true false],
.seq (.reg [d 2 (.allocz [w0,(.vec [] .full),(.vec [] .full)] false)])
(.seq (.draw [(m 3 0,0,[]),
(d 4 (.nilc (t 3)),1,[]),
(q 5 4 0,2,[]),
(l 6 5,3,[]),
(m 7 0,4,[]),
(d 8 (.nilc (t 7)),5,[]),
(q 9 8 1,6,[]),
(l 10 9,7,[]),
(m 12 0,9,[]),
(d 13 (.nilc (t 12)),10,[]),
(q 14 13 2,11,[]),
(l 15 14,12,[]),
(k 11 101 [t 10],8,[3,11]),
(k 16 102 [t 15],13,[3]),
(d 17 (.bld [w0,v0,v0] [(0,1,(t 6)),(1,1,(t 11)),(2,1,(t 16))]),14,[]),
(⟨none,none,.store (t 2) (t 17) 3⟩,15,[])])
.ret)⟩
theorem tr68:trF Tryz.prog (y [] [] [] [(1,([0,1,3,7,0,16,48,112,240,0,512,1536,3584,8176,16383,32767],[(0,[]),(1,[]),(2,[]),(3,[]),(4,[]),(5,[]),(6,[]),(7,[]),(9,[]),(10,[]),(11,[]),(12,[]),(8,[3,11]),(13,[3]),(14,[]),(15,[])]))] false) Tryz.f68=some ir68:=by kernel_rfl
def ir69:IFn:=⟨11,[.tmp 2 false],
.seq (.reg [d 1 (.box (t 0) false),
d 2 (.mv (i 0))])
(.seq (.reg [d 6 (.load (t 1) 3 true),
k 7 58 [t 6],
m 5 7,
d 8 (.ext (t 5) 0),
d 9 (.ext (t 5) 1),
m 3 8,
m 4 9])
(.seq (.reg [m 10 4,
m 2 10])
.ret))⟩
theorem tr69:trF Tryz.prog y0 Tryz.f69=some ir69:=by kernel_rfl
def ir70:IFn:=⟨89,[.tmp 4 false],
.seq (.reg [d 2 (.box (t 0) false),
d 4 (.mv (.cst (.bool false)))])
(.seq (.reg [m 12 1,
d 13 (.len .i (t 12)),
d 14 (.mks (t 13) (t 13) 1 8 false [i0] true),
m 5 14])
(.seq (.seq (.reg [q 15 2 0,
l 16 15,
d 17 (.len .i (t 16)),
d 18 (.mv (i 0))])
(.block 0
(.loop [1,5,16,17,18]
(.seq (.reg [b 19 .lss (t 18) (t 17)])
(.seq (.cond (t 19)
.skip
(.brk 0))
(.seq (.block 1
(.seq (.reg [d 20 (.idxS (t 16) (t 18) 4),
d 21 (.load (t 20) 4 true),
d 7 (.allocz [s0,i0,i0,i0] false),
⟨none,none,.store (t 7) (t 21) 4⟩])
(.seq (.seq (.reg [q 22 7 1,
l 23 22,
m 24 1,
d 25 (.len .i (t 24)),
b 26 .gtr (t 23) (t 25)])
(.cond (t 26)
(.seq (.reg [d 4 (.mv (.cst (.bool false)))])
.ret)
.skip))
(.seq (.reg [d 27 (.load (t 7) 4 true),
k 28 103 [t 27],
d 29 (.mv (i 0))])
(.block 2
(.loop [1,5,7,16,17,18,28,29]
(.seq (.reg [b 30 .lss (t 29) (t 28)])
(.seq (.cond (t 30)
.skip
(.brk 2))
(.seq (.block 3
(.seq (.draw [(m 31 1,0,[]),
(q 32 7 1,1,[]),
(l 33 32,2,[]),
(b 34 .sub (t 33) (i 1),3,[]),
(d 35 (.idxS (t 31) (t 34) 1),4,[]),
(l 36 35,5,[]),
(m 37 5,6,[]),
(q 38 7 1,7,[]),
(l 39 38,8,[]),
(b 40 .sub (t 39) (i 1),9,[]),
(d 41 (.idxS (t 37) (t 40) 1),10,[]),
(l 42 41,11,[]),
(m 8 36,12,[]),
(m 9 42,13,[])])
(.seq (.seq (.draw [(m 43 9,0,[]),
(m 44 8,1,[]),
(d 45 (.len .i (t 44)),2,[]),
(b 46 .geq (t 43) (t 45),3,[]),
(m 47 46,4,[]),
(⟨some 48,some (47,false),.mv (t 8)⟩,5,[]),
(⟨some 49,some (47,false),.mv (t 9)⟩,6,[]),
(⟨some 50,some (47,false),.idxS (t 48) (t 49) 1⟩,7,[]),
(⟨some 51,some (47,false),.load (t 50) 1 false⟩,8,[]),
(⟨some 52,some (47,false),.bin .neq .plain (t 51) (w 0)⟩,9,[]),
(⟨some 53,some (47,false),.mv (t 52)⟩,10,[]),
(⟨some 54,some (53,true),.mv (t 8)⟩,11,[]),
(⟨some 55,some (53,true),.mv (t 9)⟩,12,[]),
(⟨some 56,some (53,true),.idxS (t 54) (t 55) 1⟩,13,[]),
(⟨some 57,some (53,true),.load (t 56) 1 false⟩,14,[]),
(⟨some 59,some (53,true),.fad (t 7) 2⟩,16,[]),
(⟨some 60,some (53,true),.load (t 59) 1 false⟩,17,[]),
(⟨some 58,some (53,true),.call 71 [t 57]⟩,15,[16]),
(⟨some 61,some (53,true),.bin .gtr .plain (t 58) (t 60)⟩,18,[]),
(⟨some 62,some (47,false),.pick (t 53) (t 61) (.cst (.bool false))⟩,19,[]),
(d 63 (.pick (t 47) (.cst (.bool true)) (t 62)),20,[])])
(.cond (t 63)
(.seq (.reg [d 4 (.mv (.cst (.bool false)))])
.ret)
.skip))
(.reg [m 64 5,
q 65 7 1,
l 66 65,
b 67 .sub (t 66) (i 1),
d 68 (.idxS (t 64) (t 67) 1),
l 69 68,
b 70 .add (t 69) (i 1),
d 71 (.idxS (t 64) (t 67) 1),
⟨none,none,.store (t 71) (t 70) 1⟩]))))
(.reg [b 72 .add (t 29) (i 1),
m 29 72]))))))))))
(.reg [b 73 .add (t 18) (i 1),
m 18 73])))))))
(.seq (.seq (.reg [m 74 1,
d 75 (.len .i (t 74)),
d 76 (.mv (i 0))])
(.block 4
(.loop [5,74,75,76]
(.seq (.reg [b 77 .lss (t 76) (t 75)])
(.seq (.cond (t 77)
.skip
(.brk 4))
(.seq (.block 5
(.seq (.reg [m 78 76,
d 79 (.idxS (t 74) (t 76) 1),
l 80 79,
m 10 78,
m 11 80])
(.seq (.reg [m 81 5,
m 82 10,
d 83 (.idxS (t 81) (t 82) 1),
l 84 83,
m 85 11,
d 86 (.len .i (t 85)),
b 87 .neq (t 84) (t 86)])
(.cond (t 87)
(.seq (.reg [d 4 (.mv (.cst (.bool false)))])
.ret)
.skip))))
(.reg [b 88 .add (t 76) (i 1),
m 76 88])))))))
(.seq (.reg [d 4 (.mv (.cst (.bool true)))])
.ret))))⟩
theorem tr70:trF Tryz.prog (y [14] [] [[1,5,16,17,18],[1,5,7,16,17,18,28,29],[5,74,75,76]] [(9,([0,0,2,6,15,31,0,0,128,384,960,1984,63,8191],[(0,[]),(1,[]),(2,[]),(3,[]),(4,[]),(5,[]),(6,[]),(7,[]),(8,[]),(9,[]),(10,[]),(11,[]),(12,[]),(13,[])])),(10,([0,0,2,7,15,31,31,127,255,511,1023,2047,2047,8191,16383,32767,2047,67583,262143,524287,1048575],[(0,[]),(1,[]),(2,[]),(3,[]),(4,[]),(5,[]),(6,[]),(7,[]),(8,[]),(9,[]),(10,[]),(11,[]),(12,[]),(13,[]),(14,[]),(16,[]),(17,[]),(15,[16]),(18,[]),(19,[]),(20,[])]))] false) Tryz.f70=some ir70:=by kernel_rfl
def ir71:IFn:=⟨6,[.tmp 2 false],
.seq (.reg [d 2 (.mv (i 0))])
(.seq (.reg [m 3 0,
k 4 104 [t 3],
d 5 (.max [t 4,i 1]),
m 2 5])
.ret)⟩
theorem tr71:trF Tryz.prog y0 Tryz.f71=some ir71:=by kernel_rfl
def ir72:IFn:=⟨68,[.tmp 4 false],
.seq (.reg [d 2 (.box (t 0) false),
d 4 (.mv (.cst (.bool false)))])
(.seq (.seq (.reg [d 5 (.mv (i 0))])
(.block 0
(.loop [1,2,5]
(.seq (.seq (.reg [m 8 5,
q 9 2 1,
l 10 9,
d 11 (.len .i (t 10)),
b 12 .lss (t 8) (t 11)])
(.cond (t 12)
.skip
(.brk 0)))
(.seq (.block 1
(.seq (.reg [q 15 2 1,
l 16 15,
m 17 5,
d 18 (.idxS (t 16) (t 17) 5),
q 19 18 0,
l 20 19,
b 21 .eql (t 20) (i 1),
m 22 21,
⟨some 23,some (22,true),.fad (t 2) 1⟩,
⟨some 24,some (22,true),.load (t 23) 1 false⟩,
⟨some 25,some (22,true),.mv (t 5)⟩,
⟨some 26,some (22,true),.idxS (t 24) (t 25) 5⟩,
⟨some 27,some (22,true),.fad (t 26) 1⟩,
⟨some 28,some (22,true),.load (t 27) 1 false⟩,
⟨some 29,some (22,true),.mv (t 1)⟩,
⟨some 30,some (22,true),.len .i (t 29)⟩,
⟨some 31,some (22,true),.bin .gtr .plain (t 28) (t 30)⟩,
d 32 (.pick (t 22) (t 31) (.cst (.bool false)))])
(.cond (t 32)
(.seq (.reg [d 4 (.mv (.cst (.bool false)))])
.ret)
.skip)))
(.reg [m 13 5,
b 14 .add (t 13) (i 1),
m 5 14]))))))
(.seq (.seq (.reg [d 6 (.mv (i 0))])
(.block 2
(.loop [1,2,6]
(.seq (.seq (.reg [m 33 6,
m 34 1,
d 35 (.len .i (t 34)),
b 36 .lss (t 33) (t 35)])
(.cond (t 36)
.skip
(.brk 2)))
(.seq (.block 3
(.seq (.seq (.draw [(m 39 1,0,[]),
(m 40 6,1,[]),
(d 41 (.idxS (t 39) (t 40) 1),2,[]),
(l 42 41,3,[]),
(d 43 (.len .i (t 42)),4,[]),
(d 44 (.load (t 2) 3 true),5,[]),
(m 45 6,6,[]),
(b 46 .add (t 45) (i 1),7,[]),
(k 47 105 [t 44,t 46],8,[3,4]),
(b 48 .neq (t 43) (t 47),9,[])])
(.cond (t 48)
(.seq (.reg [d 4 (.mv (.cst (.bool false)))])
.ret)
.skip))
(.seq (.reg [d 7 (.mv (i 0))])
(.block 4
(.loop [1,2,6,7]
(.seq (.seq (.reg [m 49 7,
m 50 1,
m 51 6,
d 52 (.idxS (t 50) (t 51) 1),
l 53 52,
d 54 (.len .i (t 53)),
b 55 .lss (t 49) (t 54)])
(.cond (t 55)
.skip
(.brk 4)))
(.seq (.block 5
(.seq (.draw [(m 58 1,0,[]),
(m 59 6,1,[]),
(d 60 (.idxS (t 58) (t 59) 1),2,[]),
(l 61 60,3,[]),
(m 62 7,4,[]),
(d 63 (.idxS (t 61) (t 62) 1),5,[]),
(l 64 63,6,[]),
(q 65 2 0,7,[]),
(l 66 65,8,[]),
(b 67 .geq (t 64) (t 66),9,[])])
(.cond (t 67)
(.seq (.reg [d 4 (.mv (.cst (.bool false)))])
.ret)
.skip)))
(.reg [m 56 7,
b 57 .add (t 56) (i 1),
m 7 57]))))))))
(.reg [m 37 6,
b 38 .add (t 37) (i 1),
m 6 38]))))))
(.seq (.reg [d 4 (.mv (.cst (.bool true)))])
.ret)))⟩
theorem tr72:trF Tryz.prog (y [] [] [[1,2,5],[1,2,6],[1,2,6,7]] [(9,([0,0,3,7,15,0,0,64,224,511],[(0,[]),(1,[]),(2,[]),(3,[]),(4,[]),(5,[]),(6,[]),(7,[]),(8,[3,4]),(9,[])])),(14,([0,0,3,7,0,31,63,0,128,511],[(0,[]),(1,[]),(2,[]),(3,[]),(4,[]),(5,[]),(6,[]),(7,[]),(8,[]),(9,[])]))] false) Tryz.f72=some ir72:=by kernel_rfl
def ir73:IFn:=⟨92,[.tmp 4 false],
.seq (.reg [d 2 (.box (t 0) false),
d 4 (.mv (.cst (.vec [] .full)))])
(.seq (.reg [m 11 1,
d 12 (.len .i (t 11)),
d 13 (.mks (t 12) (t 12) 1 8 false [i0] true),
m 5 13])
(.seq (.reg [m 14 1,
d 15 (.len .i (t 14)),
d 16 (.mks (t 15) (t 15) 1 1 false [(.bool false)] true),
m 6 16])
(.seq (.seq (.reg [d 7 (.mv (i 0))])
(.block 0
(.loop [1,2,5,6,7]
(.seq (.seq (.reg [m 17 7,
q 18 2 1,
l 19 18,
d 20 (.len .i (t 19)),
b 21 .lss (t 17) (t 20)])
(.cond (t 21)
.skip
(.brk 0)))
(.seq (.block 1
(.seq (.reg [q 24 2 1,
l 25 24,
m 26 7,
d 27 (.idxS (t 25) (t 26) 5),
d 28 (.load (t 27) 5 true),
d 8 (.allocz [i0,i0,i0,i0,w0] false),
⟨none,none,.store (t 8) (t 28) 5⟩])
(.seq (.seq (.reg [q 29 8 0,
l 30 29,
b 31 .neq (t 30) (i 1)])
(.cond (t 31)
(.brk 1)
.skip))
(.seq (.seq (.draw [(q 32 8 4,0,[]),
(l 33 32,1,[]),
(b 34 .eql (t 33) (w 1),2,[]),
(m 35 34,3,[]),
(⟨some 36,some (35,true),.mv (t 1)⟩,4,[]),
(⟨some 37,some (35,true),.fad (t 8) 1⟩,5,[]),
(⟨some 38,some (35,true),.load (t 37) 1 false⟩,6,[]),
(⟨some 39,some (35,true),.bin .sub .plain (t 38) (i 1)⟩,7,[]),
(⟨some 40,some (35,true),.idxS (t 36) (t 39) 1⟩,8,[]),
(⟨some 41,some (35,true),.load (t 40) 1 false⟩,9,[]),
(⟨some 42,some (35,true),.mv (t 5)⟩,10,[]),
(⟨some 43,some (35,true),.fad (t 8) 1⟩,11,[]),
(⟨some 44,some (35,true),.load (t 43) 1 false⟩,12,[]),
(⟨some 45,some (35,true),.bin .sub .plain (t 44) (i 1)⟩,13,[]),
(⟨some 46,some (35,true),.idxS (t 42) (t 45) 1⟩,14,[]),
(⟨some 47,some (35,true),.load (t 46) 1 false⟩,15,[]),
(⟨some 48,some (35,true),.idxS (t 41) (t 47) 1⟩,16,[]),
(⟨some 49,some (35,true),.load (t 48) 1 false⟩,17,[]),
(⟨some 50,some (35,true),.bin .gtr .plain (t 49) (w 1)⟩,18,[]),
(d 51 (.pick (t 35) (t 50) (.cst (.bool false))),19,[])])
(.cond (t 51)
(.reg [m 52 6,
q 53 8 1,
l 54 53,
b 55 .sub (t 54) (i 1),
d 56 (.idxS (t 52) (t 55) 1),
⟨none,none,.store (t 56) (.cst (.bool true)) 1⟩])
.skip))
(.reg [m 57 5,
q 58 8 1,
l 59 58,
b 60 .sub (t 59) (i 1),
d 61 (.idxS (t 57) (t 60) 1),
l 62 61,
b 63 .add (t 62) (i 1),
d 64 (.idxS (t 57) (t 60) 1),
⟨none,none,.store (t 64) (t 63) 1⟩])))))
(.reg [m 22 7,
b 23 .add (t 22) (i 1),
m 7 23]))))))
(.seq (.reg [d 9 (.mv (.cst (.vec [] .full)))])
(.seq (.seq (.reg [d 10 (.mv (i 0))])
(.block 2
(.loop [1,6,9,10]
(.seq (.seq (.reg [m 65 10,
m 66 1,
d 67 (.len .i (t 66)),
b 68 .lss (t 65) (t 67)])
(.cond (t 68)
.skip
(.brk 2)))
(.seq (.block 3
(.seq (.reg [m 71 6,
m 72 10,
d 73 (.idxS (t 71) (t 72) 1),
l 74 73])
(.cond (t 74)
(.reg [m 75 9,
m 76 1,
m 77 10,
d 78 (.idxS (t 76) (t 77) 1),
l 79 78,
d 80 (.len .i (t 79)),
d 81 (.mks (t 80) (t 80) 1 8 false [w0] false),
d 82 (.bsl 1 1 false [v0] [(0,1,(t 81))]),
d 83 (.app (t 75) (t 82) 1 24 false false),
m 9 83])
(.reg [m 84 9,
m 85 1,
m 86 10,
d 87 (.idxS (t 85) (t 86) 1),
l 88 87,
d 89 (.bsl 1 1 false [v0] [(0,1,(t 88))]),
d 90 (.app (t 84) (t 89) 1 24 false false),
m 9 90]))))
(.reg [m 69 10,
b 70 .add (t 69) (i 1),
m 10 70]))))))
(.seq (.reg [m 91 9,
m 4 91])
.ret))))))⟩
theorem tr73:trF Tryz.prog (y [13,16] [] [[1,2,5,6,7],[1,6,9,10]] [(8,([0,1,3,7,15,15,47,111,255,511,15,15,2063,6159,15375,31759,65535,131071,262143,524287],[(0,[]),(1,[]),(2,[]),(3,[]),(4,[]),(5,[]),(6,[]),(7,[]),(8,[]),(9,[]),(10,[]),(11,[]),(12,[]),(13,[]),(14,[]),(15,[]),(16,[]),(17,[]),(18,[]),(19,[])]))] false) Tryz.f73=some ir73:=by kernel_rfl
def ir74:IFn:=⟨12,[.tmp 6 false],
.seq (.reg [d 6 (.mv (w 0))])
(.seq (.reg [m 7 1,
m 8 2,
b 9 .add (t 7) (t 8),
m 10 0,
b 11 .rem (t 9) (t 10),
m 6 11])
.ret)⟩
theorem tr74:trF Tryz.prog y0 Tryz.f74=some ir74:=by kernel_rfl
def ir75:IFn:=⟨14,[.tmp 6 false],
.seq (.reg [d 6 (.mv (w 0))])
(.seq (.reg [m 7 1,
m 8 0,
b 9 .add (t 7) (t 8),
m 10 2,
b 11 .sub (t 9) (t 10),
m 12 0,
b 13 .rem (t 11) (t 12),
m 6 13])
.ret)⟩
theorem tr75:trF Tryz.prog y0 Tryz.f75=some ir75:=by kernel_rfl
def ir76:IFn:=⟨26,[.tmp 6 false],
.seq (.reg [d 6 (.mv (w 0))])
(.seq (.reg [d 7 (.mv (w 0))])
(.seq (.block 0
(.loop [0,1,2,7]
(.seq (.seq (.reg [m 8 2,
b 9 .gtr (t 8) (w 0)])
(.cond (t 9)
.skip
(.brk 0)))
(.block 1
(.seq (.seq (.reg [m 10 2,
b 11 .rem (t 10) (w 2),
b 12 .eql (t 11) (w 1)])
(.cond (t 12)
(.reg [m 13 7,
m 14 1,
b 15 .add (t 13) (t 14),
m 16 0,
b 17 .rem (t 15) (t 16),
m 7 17])
.skip))
(.seq (.reg [m 18 1,
m 19 1,
b 20 .add (t 18) (t 19),
m 21 0,
b 22 .rem (t 20) (t 21),
m 1 22])
(.reg [m 23 2,
b 24 .quo (t 23) (w 2),
m 2 24])))))))
(.seq (.reg [m 25 7,
m 6 25])
.ret)))⟩
theorem tr76:trF Tryz.prog (y [] [] [[0,1,2,7]] [] false) Tryz.f76=some ir76:=by kernel_rfl
def ir77:IFn:=⟨11,[.tmp 2 false],
.seq (.reg [d 2 (.mv (i 0))])
(.seq (.reg [d 3 (.mv (i 1))])
(.seq (.block 0
(.loop [0,3]
(.seq (.seq (.reg [m 4 0,
b 5 .gtr (t 4) (w 1)])
(.cond (t 5)
.skip
(.brk 0)))
(.block 1
(.seq (.reg [m 6 0,
b 7 .quo (t 6) (w 2),
m 0 7])
(.reg [m 8 3,
b 9 .add (t 8) (i 1),
m 3 9]))))))
(.seq (.reg [m 10 3,
m 2 10])
.ret)))⟩
theorem tr77:trF Tryz.prog (y [] [] [[0,3]] [] false) Tryz.f77=some ir77:=by kernel_rfl
def ir78:IFn:=⟨17,[.tmp 2 false],
.seq (.reg [d 2 (.mv (.cst (.bool false)))])
(.seq (.reg [m 3 0,
b 4 .geq (t 3) (.cst (.int .u8 97)),
m 5 4,
⟨some 6,some (5,true),.mv (t 0)⟩,
⟨some 7,some (5,true),.bin .leq .plain (t 6) (.cst (.int .u8 122))⟩,
d 8 (.pick (t 5) (t 7) (.cst (.bool false))),
m 9 8,
⟨some 10,some (9,false),.mv (t 0)⟩,
⟨some 11,some (9,false),.bin .geq .plain (t 10) (.cst (.int .u8 65))⟩,
⟨some 12,some (9,false),.mv (t 11)⟩,
⟨some 13,some (12,true),.mv (t 0)⟩,
⟨some 14,some (12,true),.bin .leq .plain (t 13) (.cst (.int .u8 90))⟩,
⟨some 15,some (9,false),.pick (t 12) (t 14) (.cst (.bool false))⟩,
d 16 (.pick (t 9) (.cst (.bool true)) (t 15)),
m 2 16])
.ret)⟩
theorem tr78:trF Tryz.prog y0 Tryz.f78=some ir78:=by kernel_rfl
def ir79:IFn:=⟨35,[.tmp 4 false],
.seq (.reg [d 4 (.mv (i 0))])
(.seq (.reg [d 5 (.mv (i 0))])
(.seq (.block 0
(.loop [0,1,5]
(.seq (.seq (.reg [m 6 5,
m 7 0,
d 8 (.len .s (t 7)),
b 9 .lss (t 6) (t 8),
m 10 9,
⟨some 11,some (10,true),.mv (t 0)⟩,
⟨some 12,some (10,true),.mv (t 5)⟩,
⟨some 13,some (10,true),.idxStr (t 11) (t 12)⟩,
⟨some 14,some (10,true),.call 106 [t 13]⟩,
⟨some 15,some (10,true),.mv (t 14)⟩,
⟨some 16,some (15,false),.mv (t 1)⟩,
⟨some 17,some (15,false),.un .not (t 16)⟩,
⟨some 18,some (15,false),.mv (t 17)⟩,
⟨some 19,some (18,true),.mv (t 0)⟩,
⟨some 20,some (18,true),.mv (t 5)⟩,
⟨some 21,some (18,true),.idxStr (t 19) (t 20)⟩,
⟨some 22,some (18,true),.call 78 [t 21]⟩,
⟨some 23,some (18,true),.mv (t 22)⟩,
⟨some 24,some (23,false),.mv (t 0)⟩,
⟨some 25,some (23,false),.mv (t 5)⟩,
⟨some 26,some (23,false),.idxStr (t 24) (t 25)⟩,
⟨some 27,some (23,false),.bin .eql .plain (t 26) (.cst (.int .u8 95))⟩,
⟨some 28,some (18,true),.pick (t 23) (.cst (.bool true)) (t 27)⟩,
⟨some 29,some (15,false),.pick (t 18) (t 28) (.cst (.bool false))⟩,
⟨some 30,some (10,true),.pick (t 15) (.cst (.bool true)) (t 29)⟩,
d 31 (.pick (t 10) (t 30) (.cst (.bool false)))])
(.cond (t 31)
.skip
(.brk 0)))
(.block 1
(.reg [m 32 5,
b 33 .add (t 32) (i 1),
m 5 33])))))
(.seq (.reg [m 34 5,
m 4 34])
.ret)))⟩
theorem tr79:trF Tryz.prog (y [] [] [[0,1,5]] [] false) Tryz.f79=some ir79:=by kernel_rfl
def ir80:IFn:=⟨18,[.tmp 2 false],
.seq (.reg [d 2 (.mv (.cst (.bool false)))])
(.seq (.reg [d 5 (.bsl 8 1 false [s0] [(0,1,(.cst (.str ⟨#[105,110]⟩))),(1,1,(.cst (.str ⟨#[102,114,111,109]⟩))),(2,1,(.cst (.str ⟨#[97,114,114,97,121]⟩))),(3,1,(.cst (.str ⟨#[105,102]⟩))),(4,1,(.cst (.str ⟨#[101,108,115,101]⟩))),(5,1,(.cst (.str ⟨#[102,111,114]⟩))),(6,1,(.cst (.str ⟨#[116,111]⟩))),(7,1,(.cst (.str ⟨#[111,117,116]⟩)))]),
m 3 5])
(.seq (.seq (.reg [d 4 (.mv (i 0))])
(.block 0
(.loop [0,3,4]
(.seq (.seq (.reg [m 6 4,
m 7 3,
d 8 (.len .i (t 7)),
b 9 .lss (t 6) (t 8)])
(.cond (t 9)
.skip
(.brk 0)))
(.seq (.block 1
(.seq (.reg [m 12 0,
m 13 3,
m 14 4,
d 15 (.idxS (t 13) (t 14) 1),
l 16 15,
b 17 .eql (t 12) (t 16)])
(.cond (t 17)
(.seq (.reg [d 2 (.mv (.cst (.bool true)))])
.ret)
.skip)))
(.reg [m 10 4,
b 11 .add (t 10) (i 1),
m 4 11]))))))
(.seq (.reg [d 2 (.mv (.cst (.bool false)))])
.ret)))⟩
theorem tr80:trF Tryz.prog (y [] [] [[0,3,4]] [] false) Tryz.f80=some ir80:=by kernel_rfl
def ir81:IFn:=⟨110,[.tmp 4 false],
.seq (.reg [d 2 (.box (t 0) false),
d 4 (.mv (.cst (.bool false)))])
(.seq (.seq (.reg [m 8 1,
b 9 .gtr (t 8) (i 24),
m 10 9,
⟨some 11,some (10,false),.fad (t 2) 0⟩,
⟨some 12,some (10,false),.load (t 11) 1 false⟩,
⟨some 13,some (10,false),.bin .lss .plain (t 12) (i 1)⟩,
d 14 (.pick (t 10) (.cst (.bool true)) (t 13)),
m 15 14,
⟨some 16,some (15,false),.fad (t 2) 0⟩,
⟨some 17,some (15,false),.load (t 16) 1 false⟩,
⟨some 18,some (15,false),.bin .gtr .plain (t 17) (i 5)⟩,
d 19 (.pick (t 15) (.cst (.bool true)) (t 18))])
(.cond (t 19)
(.seq (.reg [d 4 (.mv (.cst (.bool false)))])
.ret)
.skip))
(.seq (.reg [d 5 (.mv (i 1))])
(.seq (.seq (.reg [q 20 2 0,
l 21 20,
b 22 .eql (t 21) (i 2),
m 23 22,
⟨some 24,some (23,false),.fad (t 2) 0⟩,
⟨some 25,some (23,false),.load (t 24) 1 false⟩,
⟨some 26,some (23,false),.bin .eql .plain (t 25) (i 4)⟩,
d 27 (.pick (t 23) (.cst (.bool true)) (t 26))])
(.cond (t 27)
(.reg [d 5 (.mv (i 2))])
.skip))
(.seq (.reg [q 28 2 0,
l 29 28,
b 30 .neq (t 29) (i 3),
m 31 30,
⟨some 32,some (31,true),.fad (t 2) 0⟩,
⟨some 33,some (31,true),.load (t 32) 1 false⟩,
⟨some 34,some (31,true),.bin .neq .plain (t 33) (i 5)⟩,
d 35 (.pick (t 31) (t 34) (.cst (.bool false))),
m 6 35])
(.seq (.seq (.reg [q 36 2 2,
l 37 36,
d 38 (.len .i (t 37)),
m 39 5,
b 40 .neq (t 38) (t 39),
m 41 40,
⟨some 42,some (41,false),.mv (t 6)⟩,
⟨some 43,some (41,false),.mv (t 42)⟩,
⟨some 44,some (43,true),.fad (t 2) 1⟩,
⟨some 45,some (43,true),.load (t 44) 1 false⟩,
⟨some 46,some (43,true),.call 45 [t 45]⟩,
⟨some 47,some (43,true),.un .not (t 46)⟩,
⟨some 48,some (41,false),.pick (t 43) (t 47) (.cst (.bool false))⟩,
d 49 (.pick (t 41) (.cst (.bool true)) (t 48)),
m 50 49,
⟨some 51,some (50,false),.mv (t 6)⟩,
⟨some 52,some (50,false),.un .not (t 51)⟩,
⟨some 53,some (50,false),.mv (t 52)⟩,
⟨some 54,some (53,true),.fad (t 2) 1⟩,
⟨some 55,some (53,true),.load (t 54) 1 false⟩,
⟨some 56,some (53,true),.bin .neq .plain (t 55) (.cst s0)⟩,
⟨some 57,some (50,false),.pick (t 53) (t 56) (.cst (.bool false))⟩,
d 58 (.pick (t 50) (.cst (.bool true)) (t 57))])
(.cond (t 58)
(.seq (.reg [d 4 (.mv (.cst (.bool false)))])
.ret)
.skip))
(.seq (.seq (.reg [q 59 2 0,
l 60 59,
b 61 .neq (t 60) (i 3),
m 62 61,
⟨some 63,some (62,true),.fad (t 2) 4⟩,
⟨some 64,some (62,true),.load (t 63) 1 false⟩,
⟨some 65,some (62,true),.len .i (t 64)⟩,
⟨some 66,some (62,true),.bin .gtr .plain (t 65) (i 0)⟩,
d 67 (.pick (t 62) (t 66) (.cst (.bool false))),
m 68 67,
⟨some 69,some (68,false),.fad (t 2) 0⟩,
⟨some 70,some (68,false),.load (t 69) 1 false⟩,
⟨some 71,some (68,false),.bin .neq .plain (t 70) (i 3)⟩,
⟨some 72,some (68,false),.mv (t 71)⟩,
⟨some 73,some (72,true),.fad (t 2) 0⟩,
⟨some 74,some (72,true),.load (t 73) 1 false⟩,
⟨some 75,some (72,true),.bin .neq .plain (t 74) (i 4)⟩,
⟨some 76,some (68,false),.pick (t 72) (t 75) (.cst (.bool false))⟩,
⟨some 77,some (68,false),.mv (t 76)⟩,
⟨some 78,some (77,true),.fad (t 2) 3⟩,
⟨some 79,some (77,true),.load (t 78) 1 false⟩,
⟨some 80,some (77,true),.len .i (t 79)⟩,
⟨some 81,some (77,true),.bin .gtr .plain (t 80) (i 0)⟩,
⟨some 82,some (68,false),.pick (t 77) (t 81) (.cst (.bool false))⟩,
d 83 (.pick (t 68) (.cst (.bool true)) (t 82))])
(.cond (t 83)
(.seq (.reg [d 4 (.mv (.cst (.bool false)))])
.ret)
.skip))
(.seq (.seq (.reg [d 7 (.mv (i 0))])
(.block 0
(.loop [1,2,5,7]
(.seq (.seq (.reg [m 84 7,
m 85 5,
b 86 .lss (t 84) (t 85)])
(.cond (t 86)
.skip
(.brk 0)))
(.seq (.block 1
(.seq (.reg [q 89 2 2,
l 90 89,
m 91 7,
d 92 (.idxS (t 90) (t 91) 5),
d 93 (.load (t 92) 5 true),
m 94 1,
b 95 .add (t 94) (i 1),
k 96 107 [t 93,t 95],
d 97 (.un .not (t 96))])
(.cond (t 97)
(.seq (.reg [d 4 (.mv (.cst (.bool false)))])
.ret)
.skip)))
(.reg [m 87 7,
b 88 .add (t 87) (i 1),
m 7 88]))))))
(.seq (.reg [q 98 2 3,
l 99 98,
m 100 1,
b 101 .add (t 100) (i 1),
k 102 46 [t 99,t 101],
m 103 102,
⟨some 104,some (103,true),.fad (t 2) 4⟩,
⟨some 105,some (103,true),.load (t 104) 1 false⟩,
⟨some 106,some (103,true),.mv (t 1)⟩,
⟨some 107,some (103,true),.bin .add .plain (t 106) (i 1)⟩,
⟨some 108,some (103,true),.call 46 [t 105,t 107]⟩,
d 109 (.pick (t 103) (t 108) (.cst (.bool false))),
m 4 109])
.ret))))))))⟩
theorem tr81:trF Tryz.prog (y [] [] [[1,2,5,7]] [] false) Tryz.f81=some ir81:=by kernel_rfl
def ir82:IFn:=⟨6,[.tmp 2 false],
.seq (.reg [d 2 (.mv (.cst s0))])
(.seq (.reg [m 3 0,
d 4 (.cvI .u64 (t 3)),
k 5 108 [t 4],
m 2 5])
.ret)⟩
theorem tr82:trF Tryz.prog y0 Tryz.f82=some ir82:=by kernel_rfl
def ir83:IFn:=⟨141,[.tmp 4 false],
.seq (.reg [d 4 (.mv (.cst s0))])
(.seq (.reg [d 5 (.mv (.cst s0))])
(.seq (.seq (.reg [d 6 (.mv (i 0))])
(.block 0
(.loop [0,1,5,6]
(.seq (.seq (.reg [m 8 6,
m 9 0,
d 10 (.len .i (t 9)),
b 11 .lss (t 8) (t 10)])
(.cond (t 11)
.skip
(.brk 0)))
(.seq (.block 1
(.seq (.reg [m 14 0,
m 15 6,
d 16 (.idxS (t 14) (t 15) 5),
d 17 (.load (t 16) 5 true),
d 7 (.allocz [i0,s0,(.vec [] .full),(.vec [] .full),(.vec [] .full)] false),
⟨none,none,.store (t 7) (t 17) 5⟩])
(.seq (.reg [q 18 7 0,
l 19 18])
(.block 2
(.seq (.reg [b 52 .eql (t 19) (i 1),
m 51 52])
(.cond (t 51)
(.draw [(m 53 5,0,[]),
(m 54 1,1,[]),
(b 55 .add (t 53) (t 54),2,[]),
(q 56 7 1,3,[]),
(l 57 56,4,[]),
(b 58 .add (t 55) (t 57),5,[]),
(b 59 .add (t 58) (.cst (.str ⟨#[32,61,32]⟩)),6,[]),
(q 60 7 2,7,[]),
(l 61 60,8,[]),
(d 62 (.idxS (t 61) (i 0) 5),9,[]),
(d 63 (.load (t 62) 5 true),10,[]),
(k 64 109 [t 63],11,[4]),
(b 65 .add (t 59) (t 64),12,[]),
(b 66 .add (t 65) (.cst (.str ⟨#[59,10]⟩)),13,[]),
(m 5 66,14,[])])
(.seq (.reg [b 68 .eql (t 19) (i 2),
m 67 68])
(.cond (t 67)
(.draw [(m 69 5,0,[]),
(m 70 1,1,[]),
(b 71 .add (t 69) (t 70),2,[]),
(q 72 7 1,3,[]),
(l 73 72,4,[]),
(b 74 .add (t 71) (t 73),5,[]),
(b 75 .add (t 74) (.cst (.str ⟨#[91]⟩)),6,[]),
(q 76 7 2,7,[]),
(l 77 76,8,[]),
(d 78 (.idxS (t 77) (i 0) 5),9,[]),
(d 79 (.load (t 78) 5 true),10,[]),
(q 83 7 2,14,[]),
(l 84 83,15,[]),
(d 85 (.idxS (t 84) (i 1) 5),16,[]),
(d 86 (.load (t 85) 5 true),17,[]),
(k 80 109 [t 79],11,[4,12,14]),
(b 81 .add (t 75) (t 80),12,[]),
(b 82 .add (t 81) (.cst (.str ⟨#[93,32,61,32]⟩)),13,[]),
(k 87 109 [t 86],18,[4]),
(b 88 .add (t 82) (t 87),19,[]),
(b 89 .add (t 88) (.cst (.str ⟨#[59,10]⟩)),20,[]),
(m 5 89,21,[])])
(.seq (.reg [b 91 .eql (t 19) (i 5),
m 90 91])
(.cond (t 90)
(.reg [m 92 5,
m 93 1,
b 94 .add (t 92) (t 93),
b 95 .add (t 94) (.cst (.str ⟨#[111,117,116,32]⟩)),
q 96 7 2,
l 97 96,
d 98 (.idxS (t 97) (i 0) 5),
d 99 (.load (t 98) 5 true),
k 100 109 [t 99],
b 101 .add (t 95) (t 100),
b 102 .add (t 101) (.cst (.str ⟨#[59,10]⟩)),
m 5 102])
(.seq (.reg [b 104 .eql (t 19) (i 3),
m 103 104])
(.cond (t 103)
(.seq (.draw [(m 105 5,0,[]),
(m 106 1,1,[]),
(b 107 .add (t 105) (t 106),2,[]),
(b 108 .add (t 107) (.cst (.str ⟨#[105,102,32,40]⟩)),3,[]),
(q 109 7 2,4,[]),
(l 110 109,5,[]),
(d 111 (.idxS (t 110) (i 0) 5),6,[]),
(d 112 (.load (t 111) 5 true),7,[]),
(q 116 7 3,11,[]),
(l 117 116,12,[]),
(m 118 1,13,[]),
(b 119 .add (t 118) (.cst (.str ⟨#[32,32]⟩)),14,[]),
(k 113 109 [t 112],8,[9]),
(b 114 .add (t 108) (t 113),9,[]),
(b 115 .add (t 114) (.cst (.str ⟨#[41,32,123,10]⟩)),10,[]),
(k 120 83 [t 117,t 119],15,[]),
(b 121 .add (t 115) (t 120),16,[]),
(m 5 121,17,[])])
(.seq (.seq (.reg [q 122 7 4,
l 123 122,
d 124 (.len .i (t 123)),
b 125 .gtr (t 124) (i 0)])
(.cond (t 125)
(.reg [m 126 5,
m 127 1,
b 128 .add (t 126) (t 127),
b 129 .add (t 128) (.cst (.str ⟨#[125,32,101,108,115,101,32,123,10]⟩)),
q 130 7 4,
l 131 130,
m 132 1,
b 133 .add (t 132) (.cst (.str ⟨#[32,32]⟩)),
k 134 83 [t 131,t 133],
b 135 .add (t 129) (t 134),
m 5 135])
.skip))
(.reg [m 136 5,
m 137 1,
b 138 .add (t 136) (t 137),
b 139 .add (t 138) (.cst (.str ⟨#[125,10]⟩)),
m 5 139])))
(.draw [(m 20 5,0,[]),
(m 21 1,1,[]),
(b 22 .add (t 20) (t 21),2,[]),
(b 23 .add (t 22) (.cst (.str ⟨#[102,111,114,32]⟩)),3,[]),
(q 24 7 1,4,[]),
(l 25 24,5,[]),
(b 26 .add (t 23) (t 25),6,[]),
(b 27 .add (t 26) (.cst (.str ⟨#[32,61,32]⟩)),7,[]),
(q 28 7 2,8,[]),
(l 29 28,9,[]),
(d 30 (.idxS (t 29) (i 0) 5),10,[]),
(d 31 (.load (t 30) 5 true),11,[]),
(q 35 7 2,15,[]),
(l 36 35,16,[]),
(d 37 (.idxS (t 36) (i 1) 5),17,[]),
(d 38 (.load (t 37) 5 true),18,[]),
(q 42 7 3,22,[]),
(l 43 42,23,[]),
(m 44 1,24,[]),
(b 45 .add (t 44) (.cst (.str ⟨#[32,32]⟩)),25,[]),
(m 48 1,28,[]),
(k 32 109 [t 31],12,[5,13,15,17]),
(b 33 .add (t 27) (t 32),13,[]),
(b 34 .add (t 33) (.cst (.str ⟨#[32,116,111,32]⟩)),14,[]),
(k 39 109 [t 38],19,[5,17]),
(b 40 .add (t 34) (t 39),20,[]),
(b 41 .add (t 40) (.cst (.str ⟨#[32,123,10]⟩)),21,[]),
(k 46 83 [t 43,t 45],26,[5]),
(b 47 .add (t 41) (t 46),27,[]),
(b 49 .add (t 47) (t 48),29,[]),
(b 50 .add (t 49) (.cst (.str ⟨#[125,10]⟩)),30,[]),
(m 5 50,31,[])])))))))))))))
(.reg [m 12 6,
b 13 .add (t 12) (i 1),
m 6 13]))))))
(.seq (.reg [m 140 5,
m 4 140])
.ret)))⟩
theorem tr83:trF Tryz.prog (y [] [] [[0,1,5,6]] [(9,([0,0,3,0,8,31,63,0,128,384,896,1920,4095,8191,16383],[(0,[]),(1,[]),(2,[]),(3,[]),(4,[]),(5,[]),(6,[]),(7,[]),(8,[]),(9,[]),(10,[]),(11,[4]),(12,[]),(13,[]),(14,[])])),(11,([0,0,3,0,8,31,63,0,128,384,896,1920,4095,8191,0,16384,49152,114688,249728,524287,1048575,2097151],[(0,[]),(1,[]),(2,[]),(3,[]),(4,[]),(5,[]),(6,[]),(7,[]),(8,[]),(9,[]),(10,[]),(14,[]),(15,[]),(16,[]),(17,[]),(11,[4,12,14]),(12,[]),(13,[]),(18,[4]),(19,[]),(20,[]),(21,[])])),(15,([0,0,3,7,0,16,48,112,240,511,1023,0,2048,0,8192,31216,65535,131071],[(0,[]),(1,[]),(2,[]),(3,[]),(4,[]),(5,[]),(6,[]),(7,[]),(11,[]),(12,[]),(13,[]),(14,[]),(8,[9]),(9,[]),(10,[]),(15,[]),(16,[]),(17,[])])),(7,([0,0,3,7,0,16,63,127,0,256,768,1792,3840,8191,16383,0,32768,98304,229376,499456,1048575,2097151,0,4194304,0,16777216,63938304,134217727,0,536870911,1073741823,2147483647],[(0,[]),(1,[]),(2,[]),(3,[]),(4,[]),(5,[]),(6,[]),(7,[]),(8,[]),(9,[]),(10,[]),(11,[]),(15,[]),(16,[]),(17,[]),(18,[]),(22,[]),(23,[]),(24,[]),(25,[]),(28,[]),(12,[5,13,15,17]),(13,[]),(14,[]),(19,[5,17]),(20,[]),(21,[]),(26,[5]),(27,[]),(29,[]),(30,[]),(31,[])]))] false) Tryz.f83=some ir83:=by kernel_rfl
def ir84:IFn:=⟨22,[.tmp 2 false],
.seq (.reg [d 2 (.mv (i 0))])
(.seq (.reg [m 5 0,
d 6 (.len .i (t 5)),
m 3 6])
(.seq (.seq (.reg [d 4 (.mv (i 0))])
(.block 0
(.loop [0,3,4]
(.seq (.seq (.reg [m 7 4,
m 8 0,
d 9 (.len .i (t 8)),
b 10 .lss (t 7) (t 9)])
(.cond (t 10)
.skip
(.brk 0)))
(.seq (.block 1
(.reg [m 13 3,
m 14 0,
m 15 4,
d 16 (.idxS (t 14) (t 15) 5),
q 17 16 4,
l 18 17,
k 19 84 [t 18],
b 20 .add (t 13) (t 19),
m 3 20]))
(.reg [m 11 4,
b 12 .add (t 11) (i 1),
m 4 12]))))))
(.seq (.reg [m 21 3,
m 2 21])
.ret)))⟩
theorem tr84:trF Tryz.prog (y [] [] [[0,3,4]] [] false) Tryz.f84=some ir84:=by kernel_rfl
def ir85:IFn:=⟨60,[.tmp 2 false],
.seq (.reg [d 1 (.box (t 0) false),
d 2 (.mv (.cst (.bool false)))])
(.seq (.reg [d 3 (.mv (.cst (.vec [] .full)))])
(.seq (.seq (.reg [d 4 (.mv (i 0))])
(.block 0
(.loop [1,3,4]
(.seq (.seq (.reg [m 8 4,
q 9 1 0,
l 10 9,
d 11 (.len .i (t 10)),
b 12 .lss (t 8) (t 11)])
(.cond (t 12)
.skip
(.brk 0)))
(.seq (.block 1
(.reg [m 15 3,
q 16 1 0,
l 17 16,
m 18 4,
d 19 (.idxS (t 17) (t 18) 4),
q 20 19 0,
l 21 20,
d 22 (.bsl 1 1 false [s0] [(0,1,(t 21))]),
d 23 (.app (t 15) (t 22) 1 16 false false),
m 3 23]))
(.reg [m 13 4,
b 14 .add (t 13) (i 1),
m 4 14]))))))
(.seq (.seq (.reg [d 5 (.mv (i 0))])
(.block 2
(.loop [1,3,5]
(.seq (.seq (.reg [m 24 5,
q 25 1 1,
l 26 25,
d 27 (.len .i (t 26)),
b 28 .lss (t 24) (t 27)])
(.cond (t 28)
.skip
(.brk 2)))
(.seq (.block 3
(.reg [m 31 3,
q 32 1 1,
l 33 32,
m 34 5,
d 35 (.idxS (t 33) (t 34) 2),
q 36 35 0,
l 37 36,
d 38 (.bsl 1 1 false [s0] [(0,1,(t 37))]),
d 39 (.app (t 31) (t 38) 1 16 false false),
m 3 39]))
(.reg [m 29 5,
b 30 .add (t 29) (i 1),
m 5 30]))))))
(.seq (.seq (.reg [d 6 (.mv (i 0))])
(.block 4
(.loop [3,6]
(.seq (.seq (.reg [m 40 6,
m 41 3,
d 42 (.len .i (t 41)),
b 43 .lss (t 40) (t 42)])
(.cond (t 43)
.skip
(.brk 4)))
(.seq (.block 5
(.seq (.reg [d 7 (.mv (i 0))])
(.block 6
(.loop [3,6,7]
(.seq (.seq (.reg [m 46 7,
m 47 6,
b 48 .lss (t 46) (t 47)])
(.cond (t 48)
.skip
(.brk 6)))
(.seq (.block 7
(.seq (.draw [(m 51 3,0,[]),
(m 52 6,1,[]),
(d 53 (.idxS (t 51) (t 52) 1),2,[]),
(l 54 53,3,[]),
(m 55 3,4,[]),
(m 56 7,5,[]),
(d 57 (.idxS (t 55) (t 56) 1),6,[]),
(l 58 57,7,[]),
(b 59 .eql (t 54) (t 58),8,[])])
(.cond (t 59)
(.seq (.reg [d 2 (.mv (.cst (.bool false)))])
.ret)
.skip)))
(.reg [m 49 7,
b 50 .add (t 49) (i 1),
m 7 50])))))))
(.reg [m 44 6,
b 45 .add (t 44) (i 1),
m 6 45]))))))
(.seq (.reg [d 2 (.mv (.cst (.bool true)))])
.ret)))))⟩
theorem tr85:trF Tryz.prog (y [] [] [[1,3,4],[1,3,5],[3,6],[3,6,7]] [(16,([0,0,3,7,0,0,48,112,255],[(0,[]),(1,[]),(2,[]),(3,[]),(4,[]),(5,[]),(6,[]),(7,[]),(8,[])]))] false) Tryz.f85=some ir85:=by kernel_rfl
def ir86:IFn:=⟨22,[.tmp 4 false],
.seq (.reg [d 4 (.mv (i 0))])
(.seq (.seq (.reg [d 5 (.mv (i 0))])
(.block 0
(.loop [0,1,5]
(.seq (.seq (.reg [m 7 5,
m 8 1,
d 9 (.len .i (t 8)),
b 10 .lss (t 7) (t 9)])
(.cond (t 10)
.skip
(.brk 0)))
(.seq (.block 1
(.seq (.reg [m 13 0,
m 14 1,
m 15 5,
d 16 (.idxS (t 14) (t 15) 5),
d 17 (.load (t 16) 5 true),
k 18 110 [t 13,t 17],
m 6 18])
(.seq (.reg [m 19 6,
b 20 .neq (t 19) (i 0)])
(.cond (t 20)
(.seq (.reg [m 21 6,
m 4 21])
.ret)
.skip))))
(.reg [m 11 5,
b 12 .add (t 11) (i 1),
m 5 12]))))))
(.seq (.reg [d 4 (.mv (i 0))])
.ret))⟩
theorem tr86:trF Tryz.prog (y [] [] [[0,1,5]] [] false) Tryz.f86=some ir86:=by kernel_rfl
def ir94:IFn:=⟨9,[],
.draw [(m 6 2,0,[]),
(d 7 (.asrt 156 (t 6)),1,[]),
(d 8 (.fld (t 7) 0 1 false),2,[]),
(⟨none,none,.store (t 0) (i 0) 1⟩,3,[]),
(⟨none,none,.store (t 1) (t 8) 1⟩,4,[])]⟩
def hs94:Hints:={ obj:=[],bare:=[],loops:=[],draws:=[(2,([0,1,3,0,15],[(0,[]),(1,[]),(2,[]),(3,[]),(4,[])]))],glob:=Zgv,fresh:=false }
def ir95:IFn:=⟨45,[.tmp 4 false],
.seq (.reg [d 4 (.mv (.cst (.bool false)))])
(.seq (.reg [m 12 0,
d 13 (.nilc (t 12)),
q 14 13 0,
l 15 14,
m 16 1,
d 17 (.lkp .s (t 15) (t 16) (.agg [s0,i0,i0,i0]) true),
m 11 17,
d 18 (.ext (t 11) 0),
d 19 (.ext (t 11) 1),
d 5 (.allocz [s0,i0,i0,i0] false),
⟨none,none,.store (t 5) (t 18) 4⟩,
m 6 19])
(.seq (.reg [m 21 0,
d 22 (.nilc (t 21)),
q 23 22 1,
l 24 23,
m 25 1,
d 26 (.lkp .s (t 24) (t 25) i0 true),
m 20 26,
d 27 (.ext (t 20) 0),
d 28 (.ext (t 20) 1),
m 7 27,
m 8 28])
(.seq (.reg [m 30 0,
d 31 (.nilc (t 30)),
q 32 31 4,
l 33 32,
m 34 1,
d 35 (.lkp .s (t 33) (t 34) (.agg [i0,i0,(.bool false),w0]) true),
m 29 35,
d 36 (.ext (t 29) 0),
d 37 (.ext (t 29) 1),
d 9 (.allocz [i0,i0,(.bool false),w0] false),
⟨none,none,.store (t 9) (t 36) 4⟩,
m 10 37])
(.seq (.reg [m 38 6,
m 39 38,
⟨some 40,some (39,false),.mv (t 8)⟩,
d 41 (.pick (t 39) (.cst (.bool true)) (t 40)),
m 42 41,
⟨some 43,some (42,false),.mv (t 10)⟩,
d 44 (.pick (t 42) (.cst (.bool true)) (t 43)),
m 4 44])
.ret))))⟩
theorem tr95:trF Tryz.prog y0 Tryz.f95=some ir95:=by kernel_rfl
def ir96:IFn:=⟨5,[],
.reg [m 2 0,
d 3 (.bld [i0] [(0,1,(t 2))]),
d 4 (.mkI 156 (t 3)),
⟨none,none,.pan (t 4)⟩]⟩
theorem tr96:trF Tryz.prog y0 Tryz.f96=some ir96:=by kernel_rfl
def ir97:IFn:=⟨22,[],
.seq (.reg [m 6 1,
d 7 (.len .i (t 6)),
d 8 (.mv (i 0))])
(.block 0
(.loop [0,6,7,8]
(.seq (.reg [b 9 .lss (t 8) (t 7)])
(.seq (.cond (t 9)
.skip
(.brk 0))
(.seq (.block 1
(.seq (.reg [d 10 (.idxS (t 6) (t 8) 5),
d 11 (.load (t 10) 5 true),
d 5 (.allocz [i0,s0,(.vec [] .full),(.vec [] .full),(.vec [] .full)] false),
⟨none,none,.store (t 5) (t 11) 5⟩])
(.seq (.reg [m 12 0,
k 13 119 [t 12]])
(.draw [(m 14 0,0,[]),
(d 15 (.load (t 5) 5 true),1,[]),
(m 16 0,2,[]),
(q 17 5 2,3,[]),
(l 18 17,4,[]),
(k 19 121 [t 16,t 18],5,[1]),
(k 20 120 [t 14,t 15,t 19],6,[])]))))
(.reg [b 21 .add (t 8) (i 1),
m 8 21]))))))⟩
theorem tr97:trF Tryz.prog (y [] [] [[0,6,7,8]] [(4,([0,0,0,0,8,28,63],[(0,[]),(1,[]),(2,[]),(3,[]),(4,[]),(5,[1]),(6,[])]))] false) Tryz.f97=some ir97:=by kernel_rfl
def ir98:IFn:=⟨15,[.tmp 6 false],
.seq (.reg [d 6 (.mv (i 0))])
(.seq (.reg [m 8 1,
d 9 (.bld [i0,i0,i0,i0,w0] [(0,1,(i 1)),(1,1,(t 8))]),
d 7 (.allocz [i0,i0,i0,i0,w0] false),
⟨none,none,.store (t 7) (t 9) 5⟩])
(.seq (.seq (.reg [m 10 2])
(.cond (t 10)
(.reg [q 11 7 4,
⟨none,none,.store (t 11) (w 1) 1⟩])
.skip))
(.seq (.reg [m 12 0,
d 13 (.load (t 7) 5 true),
k 14 99 [t 12,t 13],
m 6 14])
.ret)))⟩
theorem tr98:trF Tryz.prog y0 Tryz.f98=some ir98:=by kernel_rfl
def ir99:IFn:=⟨21,[.tmp 4 false],
.seq (.reg [d 3 (.box (t 1) false),
d 4 (.mv (i 0))])
(.seq (.draw [(m 5 0,0,[]),
(m 6 0,1,[]),
(d 7 (.nilc (t 6)),2,[]),
(q 8 7 1,3,[]),
(l 9 8,4,[]),
(d 10 (.load (t 3) 5 true),5,[]),
(d 11 (.bsl 1 5 true [i0,i0,i0,i0,w0] [(0,5,(t 10))]),6,[]),
(d 12 (.app (t 9) (t 11) 5 40 true true),7,[]),
(d 13 (.nilc (t 5)),8,[]),
(q 14 13 1,9,[]),
(⟨none,none,.store (t 14) (t 12) 1⟩,10,[])])
(.seq (.reg [m 15 0,
d 16 (.nilc (t 15)),
q 17 16 1,
l 18 17,
d 19 (.len .i (t 18)),
b 20 .sub (t 19) (i 1),
m 4 20])
.ret))⟩
theorem tr99:trF Tryz.prog (y [12] [] [] [(1,([0,0,2,6,14,0,32,126,255,511,1023],[(0,[]),(1,[]),(2,[]),(3,[]),(4,[]),(5,[]),(6,[]),(7,[]),(8,[]),(9,[]),(10,[])]))] false) Tryz.f99=some ir99:=by kernel_rfl
def ir100:IFn:=⟨107,[],
.seq (.reg [d 3 (.box (t 1) false)])
(.seq (.reg [d 4 (.mv (.cst (.vec [] .full)))])
(.seq (.seq (.reg [q 8 3 2,
l 9 8,
d 10 (.len .i (t 9)),
d 11 (.mv (i 0))])
(.block 0
(.loop [0,3,4,9,10,11]
(.seq (.reg [b 12 .lss (t 11) (t 10)])
(.seq (.cond (t 12)
.skip
(.brk 0))
(.seq (.block 1
(.seq (.reg [d 13 (.idxS (t 9) (t 11) 5),
d 14 (.load (t 13) 5 true),
d 6 (.allocz [i0,i0,w0,s0,(.vec [] .full)] false),
⟨none,none,.store (t 6) (t 14) 5⟩])
(.reg [m 15 4,
m 16 0,
d 17 (.load (t 6) 5 true),
k 18 122 [t 16,t 17],
d 19 (.bsl 1 4 true [(.bool false),v0,(.bool false),w0] [(0,4,(t 18))]),
d 20 (.app (t 15) (t 19) 4 48 true false),
m 4 20])))
(.reg [b 21 .add (t 11) (i 1),
m 11 21])))))))
(.seq (.reg [q 22 3 0,
l 23 22])
(.block 2
(.seq (.reg [b 30 .eql (t 23) (i 1),
m 29 30])
(.cond (t 29)
(.draw [(m 31 0,0,[]),
(d 32 (.nilc (t 31)),1,[]),
(q 33 32 4,2,[]),
(l 34 33,3,[]),
(q 35 3 1,4,[]),
(l 36 35,5,[]),
(m 37 4,6,[]),
(d 38 (.idxS (t 37) (i 0) 4),7,[]),
(d 39 (.load (t 38) 4 true),8,[]),
(k 40 65 [t 39],9,[3,5]),
(⟨none,none,.mup .s (t 34) (t 36) (t 40)⟩,10,[])])
(.seq (.reg [b 42 .eql (t 23) (i 2),
m 41 42])
(.cond (t 41)
(.draw [(m 43 0,0,[]),
(d 44 (.nilc (t 43)),1,[]),
(q 45 44 5,2,[]),
(l 46 45,3,[]),
(q 47 3 1,4,[]),
(l 48 47,5,[]),
(d 49 (.lkp .s (t 46) (t 48) (.vec [] .full) false),6,[]),
(m 50 4,7,[]),
(d 51 (.idxS (t 50) (i 0) 4),8,[]),
(q 52 51 3,9,[]),
(l 53 52,10,[]),
(m 54 4,11,[]),
(d 55 (.idxS (t 54) (i 1) 4),12,[]),
(d 56 (.load (t 55) 4 true),13,[]),
(k 57 65 [t 56],14,[3,5,6,10]),
(d 58 (.idxS (t 49) (t 53) 4),15,[]),
(⟨none,none,.store (t 58) (t 57) 4⟩,16,[])])
(.seq (.reg [b 60 .eql (t 23) (i 3),
m 59 60])
(.cond (t 59)
(.draw [(m 61 0,0,[]),
(m 62 4,1,[]),
(d 63 (.idxS (t 62) (i 0) 4),2,[]),
(q 64 63 1,3,[]),
(l 65 64,4,[]),
(d 66 (.idxS (t 65) (i 0) 1),5,[]),
(l 67 66,6,[]),
(d 68 (.load (t 3) 5 true),7,[]),
(k 69 123 [t 61,t 67,t 68],8,[])])
(.seq (.reg [b 71 .eql (t 23) (i 4),
m 70 71])
(.cond (t 70)
(.seq (.draw [(m 72 0,0,[]),
(d 73 (.nilc (t 72)),1,[]),
(q 74 73 4,2,[]),
(l 75 74,3,[]),
(q 76 3 1,4,[]),
(l 77 76,5,[]),
(⟨none,none,.mdel .s (t 75) (t 77)⟩,6,[])])
(.seq (.seq (.reg [m 78 4,
d 79 (.idxS (t 78) (i 0) 4),
q 80 79 3,
l 81 80,
m 7 81])
(.block 3
(.loop [0,3,4,7]
(.seq (.seq (.reg [m 82 7,
m 83 4,
d 84 (.idxS (t 83) (i 1) 4),
q 85 84 3,
l 86 85,
b 87 .leq (t 82) (t 86)])
(.cond (t 87)
.skip
(.brk 3)))
(.seq (.block 4
(.seq (.draw [(m 90 0,0,[]),
(d 91 (.nilc (t 90)),1,[]),
(q 92 91 6,2,[]),
(l 93 92,3,[]),
(q 94 3 1,4,[]),
(l 95 94,5,[]),
(m 96 7,6,[]),
(⟨none,none,.mup .s (t 93) (t 95) (t 96)⟩,7,[])])
(.reg [m 97 0,
q 98 3 3,
l 99 98,
k 100 67 [t 97,t 99]])))
(.reg [m 88 7,
b 89 .add (t 88) (w 1),
m 7 89]))))))
(.draw [(m 101 0,0,[]),
(d 102 (.nilc (t 101)),1,[]),
(q 103 102 6,2,[]),
(l 104 103,3,[]),
(q 105 3 1,4,[]),
(l 106 105,5,[]),
(⟨none,none,.mdel .s (t 104) (t 106)⟩,6,[])])))
(.reg [m 24 0,
m 25 4,
d 26 (.idxS (t 25) (i 0) 4),
d 27 (.load (t 26) 4 true),
k 28 124 [t 24,t 27]])))))))))))))⟩
theorem tr100:trF Tryz.prog (y [] [] [[0,3,4,9,10,11],[0,3,4,7]] [(10,([0,1,3,7,0,16,0,64,192,448,1023],[(0,[]),(1,[]),(2,[]),(3,[]),(4,[]),(5,[]),(6,[]),(7,[]),(8,[]),(9,[3,5]),(10,[])])),(12,([0,1,3,7,0,16,63,0,128,384,896,0,2048,6144,14336,32767,65535],[(0,[]),(1,[]),(2,[]),(3,[]),(4,[]),(5,[]),(6,[]),(7,[]),(8,[]),(9,[]),(10,[]),(11,[]),(12,[]),(13,[]),(14,[3,5,6,10]),(15,[]),(16,[])])),(14,([0,0,2,6,14,30,62,0,255],[(0,[]),(1,[]),(2,[]),(3,[]),(4,[]),(5,[]),(6,[]),(7,[]),(8,[])])),(16,([0,1,3,7,0,16,63],[(0,[]),(1,[]),(2,[]),(3,[]),(4,[]),(5,[]),(6,[])])),(20,([0,1,3,7,0,16,0,127],[(0,[]),(1,[]),(2,[]),(3,[]),(4,[]),(5,[]),(6,[]),(7,[])])),(22,([0,1,3,7,0,16,63],[(0,[]),(1,[]),(2,[]),(3,[]),(4,[]),(5,[]),(6,[])]))] false) Tryz.f100=some ir100:=by kernel_rfl
def ir101:IFn:=⟨8,[.tmp 2 false],
.seq (.reg [d 2 (.mv (.cst (.vec [] .full)))])
(.seq (.seq (.reg [m 3 0,
d 4 (.nilS (t 3) false)])
(.cond (t 4)
(.seq (.reg [d 2 (.mv (.cst (.vec [] .full)))])
.ret)
.skip))
(.seq (.reg [d 5 (.bsl 0 5 true [i0,i0,i0,i0,w0] []),
m 6 0,
d 7 (.app (t 5) (t 6) 5 40 true false),
m 2 7])
.ret))⟩
theorem tr101:trF Tryz.prog y0 Tryz.f101=some ir101:=by kernel_rfl
def ir102:IFn:=⟨8,[.tmp 2 true],
.seq (.reg [d 2 (.mv (.cst (.vec [] .full)))])
(.seq (.seq (.reg [m 3 0,
d 4 (.nilS (t 3) false)])
(.cond (t 4)
(.seq (.reg [d 2 (.mv (.cst (.vec [] .full)))])
.ret)
.skip))
(.seq (.reg [d 5 (.bsl 0 1 false [i0] []),
m 6 0,
d 7 (.app (t 5) (t 6) 1 8 false false),
m 2 7])
.ret))⟩
theorem tr102:trF Tryz.prog (y [] [] [] [] true) Tryz.f102=some ir102:=by kernel_rfl
def ir103:IFn:=⟨6,[.tmp 2 false],
.seq (.reg [d 1 (.box (t 0) false),
d 2 (.mv (i 0))])
(.seq (.reg [q 3 1 3,
l 4 3,
d 5 (.max [t 4,i 1]),
m 2 5])
.ret)⟩
theorem tr103:trF Tryz.prog y0 Tryz.f103=some ir103:=by kernel_rfl
def ir104:IFn:=⟨25,[.tmp 2 false],
.seq (.reg [d 2 (.mv (i 0))])
(.seq (.seq (.reg [m 3 0,
b 4 .geq (t 3) (w 4294967296)])
(.cond (t 4)
(.seq (.reg [m 5 0,
b 6 .shr (t 5) (w 32),
m 0 6])
(.reg [d 2 (.mv (i 32))]))
.skip))
(.seq (.seq (.reg [m 7 0,
b 8 .geq (t 7) (w 65536)])
(.cond (t 8)
(.seq (.reg [m 9 0,
b 10 .shr (t 9) (w 16),
m 0 10])
(.reg [m 11 2,
b 12 .add (t 11) (i 16),
m 2 12]))
.skip))
(.seq (.seq (.reg [m 13 0,
b 14 .geq (t 13) (w 256)])
(.cond (t 14)
(.seq (.reg [m 15 0,
b 16 .shr (t 15) (w 8),
m 0 16])
(.reg [m 17 2,
b 18 .add (t 17) (i 8),
m 2 18]))
.skip))
(.seq (.reg [m 19 2,
m 20 0,
d 21 (.cvI .u8 (t 20)),
d 22 (.idxStr (.cst (.str bytes0)) (t 21)),
d 23 (.cvI .i64 (t 22)),
b 24 .add (t 19) (t 23),
m 2 24])
.ret))))⟩
theorem tr104:trF Tryz.prog y0 Tryz.f104=some ir104:=by kernel_rfl
def ir105:IFn:=⟨34,[.tmp 4 false],
.seq (.reg [d 2 (.box (t 0) false),
d 4 (.mv (i 0))])
(.seq (.reg [d 5 (.mv (i 0))])
(.seq (.seq (.reg [d 6 (.mv (i 0))])
(.block 0
(.loop [1,2,5,6]
(.seq (.seq (.reg [m 7 6,
q 8 2 1,
l 9 8,
d 10 (.len .i (t 9)),
b 11 .lss (t 7) (t 10)])
(.cond (t 11)
.skip
(.brk 0)))
(.seq (.block 1
(.seq (.reg [q 14 2 1,
l 15 14,
m 16 6,
d 17 (.idxS (t 15) (t 16) 5),
q 18 17 0,
l 19 18,
b 20 .eql (t 19) (i 1),
m 21 20,
⟨some 22,some (21,true),.fad (t 2) 1⟩,
⟨some 23,some (21,true),.load (t 22) 1 false⟩,
⟨some 24,some (21,true),.mv (t 6)⟩,
⟨some 25,some (21,true),.idxS (t 23) (t 24) 5⟩,
⟨some 26,some (21,true),.fad (t 25) 1⟩,
⟨some 27,some (21,true),.load (t 26) 1 false⟩,
⟨some 28,some (21,true),.mv (t 1)⟩,
⟨some 29,some (21,true),.bin .eql .plain (t 27) (t 28)⟩,
d 30 (.pick (t 21) (t 29) (.cst (.bool false)))])
(.cond (t 30)
(.reg [m 31 5,
b 32 .add (t 31) (i 1),
m 5 32])
.skip)))
(.reg [m 12 6,
b 13 .add (t 12) (i 1),
m 6 13]))))))
(.seq (.reg [m 33 5,
m 4 33])
.ret)))⟩
theorem tr105:trF Tryz.prog (y [] [] [[1,2,5,6]] [] false) Tryz.f105=some ir105:=by kernel_rfl
def ir106:IFn:=⟨9,[.tmp 2 false],
.seq (.reg [d 2 (.mv (.cst (.bool false)))])
(.seq (.reg [m 3 0,
b 4 .geq (t 3) (.cst (.int .u8 48)),
m 5 4,
⟨some 6,some (5,true),.mv (t 0)⟩,
⟨some 7,some (5,true),.bin .leq .plain (t 6) (.cst (.int .u8 57))⟩,
d 8 (.pick (t 5) (t 7) (.cst (.bool false))),
m 2 8])
.ret)⟩
theorem tr106:trF Tryz.prog y0 Tryz.f106=some ir106:=by kernel_rfl
def ir107:IFn:=⟨93,[.tmp 4 false],
.seq (.reg [d 2 (.box (t 0) false),
d 4 (.mv (.cst (.bool false)))])
(.seq (.seq (.draw [(m 7 1,0,[]),
(b 8 .gtr (t 7) (i 24),1,[]),
(m 9 8,2,[]),
(⟨some 10,some (9,false),.load (t 2) 5 true⟩,3,[]),
(⟨some 12,some (9,false),.fad (t 2) 4⟩,5,[]),
(⟨some 13,some (9,false),.load (t 12) 1 false⟩,6,[]),
(⟨some 14,some (9,false),.len .i (t 13)⟩,7,[]),
(⟨some 11,some (9,false),.call 125 [t 10]⟩,4,[5,6]),
(⟨some 15,some (9,false),.bin .neq .plain (t 11) (t 14)⟩,8,[]),
(d 16 (.pick (t 9) (.cst (.bool true)) (t 15)),9,[])])
(.cond (t 16)
(.seq (.reg [d 4 (.mv (.cst (.bool false)))])
.ret)
.skip))
(.seq (.reg [q 17 2 0,
l 18 17,
b 19 .eql (t 18) (i 2),
m 20 19,
⟨some 21,some (20,false),.fad (t 2) 0⟩,
⟨some 22,some (20,false),.load (t 21) 1 false⟩,
⟨some 23,some (20,false),.bin .eql .plain (t 22) (i 3)⟩,
d 24 (.pick (t 20) (.cst (.bool true)) (t 23)),
m 5 24])
(.seq (.seq (.reg [m 25 5,
m 26 25,
⟨some 27,some (26,true),.fad (t 2) 3⟩,
⟨some 28,some (26,true),.load (t 27) 1 false⟩,
⟨some 29,some (26,true),.call 45 [t 28]⟩,
⟨some 30,some (26,true),.un .not (t 29)⟩,
d 31 (.pick (t 26) (t 30) (.cst (.bool false))),
m 32 31,
⟨some 33,some (32,false),.mv (t 5)⟩,
⟨some 34,some (32,false),.un .not (t 33)⟩,
⟨some 35,some (32,false),.mv (t 34)⟩,
⟨some 36,some (35,true),.fad (t 2) 3⟩,
⟨some 37,some (35,true),.load (t 36) 1 false⟩,
⟨some 38,some (35,true),.bin .neq .plain (t 37) (.cst s0)⟩,
⟨some 39,some (32,false),.pick (t 35) (t 38) (.cst (.bool false))⟩,
d 40 (.pick (t 32) (.cst (.bool true)) (t 39))])
(.cond (t 40)
(.seq (.reg [d 4 (.mv (.cst (.bool false)))])
.ret)
.skip))
(.seq (.seq (.reg [q 41 2 0,
l 42 41,
b 43 .eql (t 42) (i 4),
m 44 43,
⟨some 45,some (44,true),.fad (t 2) 1⟩,
⟨some 46,some (44,true),.load (t 45) 1 false⟩,
⟨some 47,some (44,true),.bin .lss .plain (t 46) (i 1)⟩,
⟨some 48,some (44,true),.mv (t 47)⟩,
⟨some 49,some (48,false),.fad (t 2) 1⟩,
⟨some 50,some (48,false),.load (t 49) 1 false⟩,
⟨some 51,some (48,false),.bin .gtr .plain (t 50) (i 7)⟩,
⟨some 52,some (44,true),.pick (t 48) (.cst (.bool true)) (t 51)⟩,
d 53 (.pick (t 44) (t 52) (.cst (.bool false))),
m 54 53,
⟨some 55,some (54,false),.fad (t 2) 0⟩,
⟨some 56,some (54,false),.load (t 55) 1 false⟩,
⟨some 57,some (54,false),.bin .neq .plain (t 56) (i 4)⟩,
⟨some 58,some (54,false),.mv (t 57)⟩,
⟨some 59,some (58,true),.fad (t 2) 1⟩,
⟨some 60,some (58,true),.load (t 59) 1 false⟩,
⟨some 61,some (58,true),.bin .neq .plain (t 60) (i 0)⟩,
⟨some 62,some (54,false),.pick (t 58) (t 61) (.cst (.bool false))⟩,
d 63 (.pick (t 54) (.cst (.bool true)) (t 62))])
(.cond (t 63)
(.seq (.reg [d 4 (.mv (.cst (.bool false)))])
.ret)
.skip))
(.seq (.seq (.reg [q 64 2 2,
l 65 64,
b 66 .gtr (t 65) (w 1152921504606846975),
m 67 66,
⟨some 68,some (67,false),.fad (t 2) 0⟩,
⟨some 69,some (67,false),.load (t 68) 1 false⟩,
⟨some 70,some (67,false),.bin .neq .plain (t 69) (i 1)⟩,
⟨some 71,some (67,false),.mv (t 70)⟩,
⟨some 72,some (71,true),.fad (t 2) 2⟩,
⟨some 73,some (71,true),.load (t 72) 1 false⟩,
⟨some 74,some (71,true),.bin .neq .plain (t 73) (w 0)⟩,
⟨some 75,some (67,false),.pick (t 71) (t 74) (.cst (.bool false))⟩,
d 76 (.pick (t 67) (.cst (.bool true)) (t 75))])
(.cond (t 76)
(.seq (.reg [d 4 (.mv (.cst (.bool false)))])
.ret)
.skip))
(.seq (.seq (.reg [d 6 (.mv (i 0))])
(.block 0
(.loop [1,2,6]
(.seq (.seq (.reg [m 77 6,
q 78 2 4,
l 79 78,
d 80 (.len .i (t 79)),
b 81 .lss (t 77) (t 80)])
(.cond (t 81)
.skip
(.brk 0)))
(.seq (.block 1
(.seq (.reg [q 84 2 4,
l 85 84,
m 86 6,
d 87 (.idxS (t 85) (t 86) 5),
d 88 (.load (t 87) 5 true),
m 89 1,
b 90 .add (t 89) (i 1),
k 91 107 [t 88,t 90],
d 92 (.un .not (t 91))])
(.cond (t 92)
(.seq (.reg [d 4 (.mv (.cst (.bool false)))])
.ret)
.skip)))
(.reg [m 82 6,
b 83 .add (t 82) (i 1),
m 6 83]))))))
(.seq (.reg [d 4 (.mv (.cst (.bool true)))])
.ret)))))))⟩
theorem tr107:trF Tryz.prog (y [] [] [[1,2,6]] [(1,([0,1,3,7,15,7,39,103,255,511],[(0,[]),(1,[]),(2,[]),(3,[]),(5,[]),(6,[]),(7,[]),(4,[5,6]),(8,[]),(9,[])]))] false) Tryz.f107=some ir107:=by kernel_rfl
def ir108:IFn:=⟨23,[.tmp 2 false],
.seq (.reg [d 2 (.mv (.cst s0))])
(.seq (.reg [m 4 0,
b 5 .rem (t 4) (w 10),
b 6 .add (w 48) (t 5),
d 7 (.cvI .u8 (t 6)),
d 8 (.bsl 1 1 false [(.int .u8 0)] [(0,1,(t 7))]),
d 9 (.cvB (t 8)),
m 3 9])
(.seq (.block 0
(.loop [0,3]
(.seq (.seq (.reg [m 10 0,
b 11 .geq (t 10) (w 10)])
(.cond (t 11)
.skip
(.brk 0)))
(.block 1
(.seq (.reg [m 12 0,
b 13 .quo (t 12) (w 10),
m 0 13])
(.reg [m 14 0,
b 15 .rem (t 14) (w 10),
b 16 .add (w 48) (t 15),
d 17 (.cvI .u8 (t 16)),
d 18 (.bsl 1 1 false [(.int .u8 0)] [(0,1,(t 17))]),
d 19 (.cvB (t 18)),
m 20 3,
b 21 .add (t 19) (t 20),
m 3 21]))))))
(.seq (.reg [m 22 3,
m 2 22])
.ret)))⟩
theorem tr108:trF Tryz.prog (y [] [] [[0,3]] [] false) Tryz.f108=some ir108:=by kernel_rfl
def ir109:IFn:=⟨78,[.tmp 2 false],
.seq (.reg [d 1 (.box (t 0) false),
d 2 (.mv (.cst s0))])
(.seq (.seq (.reg [q 4 1 0,
l 5 4])
(.block 0
(.seq (.reg [b 7 .eql (t 5) (i 1),
m 6 7])
(.cond (t 6)
(.seq (.reg [q 8 1 2,
l 9 8,
k 10 108 [t 9],
m 2 10])
.ret)
(.seq (.reg [b 12 .eql (t 5) (i 2),
m 11 12])
(.cond (t 11)
(.seq (.reg [q 13 1 3,
l 14 13,
m 2 14])
.ret)
(.seq (.reg [b 16 .eql (t 5) (i 3),
m 15 16])
(.cond (t 15)
(.seq (.draw [(q 17 1 3,0,[]),
(l 18 17,1,[]),
(b 19 .add (t 18) (.cst (.str ⟨#[91]⟩)),2,[]),
(q 20 1 4,3,[]),
(l 21 20,4,[]),
(d 22 (.idxS (t 21) (i 0) 5),5,[]),
(d 23 (.load (t 22) 5 true),6,[]),
(k 24 109 [t 23],7,[1]),
(b 25 .add (t 19) (t 24),8,[]),
(b 26 .add (t 25) (.cst (.str ⟨#[93]⟩)),9,[]),
(m 2 26,10,[])])
.ret)
(.seq (.reg [b 28 .eql (t 5) (i 5),
m 27 28])
(.cond (t 27)
(.seq (.reg [q 29 1 4,
l 30 29,
d 31 (.idxS (t 30) (i 0) 5),
d 32 (.load (t 31) 5 true),
k 33 126 [t 32,i 8],
b 34 .add (.cst (.str ⟨#[33]⟩)) (t 33),
m 2 34])
.ret)
(.seq (.reg [b 36 .eql (t 5) (i 6),
m 35 36])
(.cond (t 35)
(.seq (.draw [(q 37 1 4,0,[]),
(l 38 37,1,[]),
(d 39 (.idxS (t 38) (i 0) 5),2,[]),
(d 40 (.load (t 39) 5 true),3,[]),
(q 43 1 4,6,[]),
(l 44 43,7,[]),
(d 45 (.idxS (t 44) (i 1) 5),8,[]),
(d 46 (.load (t 45) 5 true),9,[]),
(q 50 1 4,13,[]),
(l 51 50,14,[]),
(d 52 (.idxS (t 51) (i 2) 5),15,[]),
(d 53 (.load (t 52) 5 true),16,[]),
(k 41 126 [t 40,i 2],4,[5,7,9,11]),
(b 42 .add (t 41) (.cst (.str ⟨#[32,63,32]⟩)),5,[]),
(k 47 109 [t 46],10,[9,11]),
(b 48 .add (t 42) (t 47),11,[]),
(b 49 .add (t 48) (.cst (.str ⟨#[32,58,32]⟩)),12,[]),
(k 54 109 [t 53],17,[]),
(b 55 .add (t 49) (t 54),18,[]),
(m 2 55,19,[])])
.ret)
.skip))))))))))))
(.seq (.reg [d 56 (.load (t 1) 5 true),
k 57 127 [t 56],
m 3 57])
(.seq (.draw [(q 58 1 4,0,[]),
(l 59 58,1,[]),
(d 60 (.idxS (t 59) (i 0) 5),2,[]),
(d 61 (.load (t 60) 5 true),3,[]),
(m 62 3,4,[]),
(q 65 1 1,7,[]),
(l 66 65,8,[]),
(q 70 1 4,12,[]),
(l 71 70,13,[]),
(d 72 (.idxS (t 71) (i 1) 5),14,[]),
(d 73 (.load (t 72) 5 true),15,[]),
(m 74 3,16,[]),
(b 75 .add (t 74) (i 1),17,[]),
(k 63 126 [t 61,t 62],5,[6,8,10]),
(b 64 .add (t 63) (.cst (.str ⟨#[32]⟩)),6,[]),
(k 67 128 [t 66],9,[8,10]),
(b 68 .add (t 64) (t 67),10,[]),
(b 69 .add (t 68) (.cst (.str ⟨#[32]⟩)),11,[]),
(k 76 126 [t 73,t 75],18,[]),
(b 77 .add (t 69) (t 76),19,[]),
(m 2 77,20,[])])
.ret)))⟩
theorem tr109:trF Tryz.prog (y [] [] [] [(7,([0,1,3,0,8,24,56,120,255,511,1023],[(0,[]),(1,[]),(2,[]),(3,[]),(4,[]),(5,[]),(6,[]),(7,[1]),(8,[]),(9,[]),(10,[])])),(11,([0,1,3,7,15,31,0,64,192,448,991,2047,4095,0,8192,24576,57344,124895,262143,524287],[(0,[]),(1,[]),(2,[]),(3,[]),(6,[]),(7,[]),(8,[]),(9,[]),(13,[]),(14,[]),(15,[]),(16,[]),(4,[5,7,9,11]),(5,[]),(10,[9,11]),(11,[]),(12,[]),(17,[]),(18,[]),(19,[])])),(13,([0,1,3,7,0,31,63,0,128,447,1023,2047,0,4096,12288,28672,0,65536,259007,524287,1048575],[(0,[]),(1,[]),(2,[]),(3,[]),(4,[]),(7,[]),(8,[]),(12,[]),(13,[]),(14,[]),(15,[]),(16,[]),(17,[]),(5,[6,8,10]),(6,[]),(9,[8,10]),(10,[]),(11,[]),(18,[]),(19,[]),(20,[])]))] false) Tryz.f109=some ir109:=by kernel_rfl
def ir110:IFn:=⟨126,[.tmp 4 false],
.seq (.reg [d 3 (.box (t 1) false),
d 4 (.mv (i 0))])
(.seq (.reg [m 10 0,
k 11 129 [t 10],
m 5 11])
(.seq (.seq (.reg [m 12 5,
b 13 .neq (t 12) (i 0)])
(.cond (t 13)
(.seq (.reg [m 14 5,
m 4 14])
.ret)
.skip))
(.seq (.reg [m 16 0,
q 17 3 2,
l 18 17,
k 19 130 [t 16,t 18],
m 15 19,
d 20 (.ext (t 15) 0),
d 21 (.ext (t 15) 1),
m 6 20,
m 5 21])
(.seq (.seq (.reg [m 22 5,
b 23 .neq (t 22) (i 0)])
(.cond (t 23)
(.seq (.reg [m 24 5,
m 4 24])
.ret)
.skip))
(.seq (.seq (.reg [q 25 3 0,
l 26 25])
(.block 0
(.seq (.reg [b 28 .eql (t 26) (i 1),
m 27 28])
(.cond (t 27)
(.seq (.seq (.reg [m 29 0,
q 30 3 1,
l 31 30,
k 32 131 [t 29,t 31]])
(.cond (t 32)
(.seq (.reg [d 4 (.mv (i 4))])
.ret)
.skip))
(.draw [(m 33 0,0,[]),
(m 34 0,1,[]),
(d 35 (.nilc (t 34)),2,[]),
(q 36 35 3,3,[]),
(l 37 36,4,[]),
(q 38 3 1,5,[]),
(l 39 38,6,[]),
(q 41 3 1,8,[]),
(l 42 41,9,[]),
(m 43 6,10,[]),
(d 44 (.idxS (t 43) (i 0) 4),11,[]),
(d 45 (.load (t 44) 4 true),12,[]),
(k 40 132 [t 37,t 39],7,[8,11]),
(k 46 133 [t 45],13,[8]),
(d 47 (.bld [s0,i0,i0,(.bool false),w0] [(0,1,(t 42)),(1,4,(t 46))]),14,[]),
(d 48 (.bsl 1 5 true [s0,i0,i0,(.bool false),w0] [(0,5,(t 47))]),15,[]),
(d 49 (.app (t 40) (t 48) 5 48 true false),16,[]),
(d 50 (.nilc (t 33)),17,[]),
(q 51 50 3,18,[]),
(⟨none,none,.store (t 51) (t 49) 1⟩,19,[])]))
(.seq (.reg [b 53 .eql (t 26) (i 2),
m 52 53])
(.cond (t 52)
(.seq (.draw [(m 54 0,0,[]),
(d 55 (.nilc (t 54)),1,[]),
(q 56 55 0,2,[]),
(d 57 (.load (t 56) 3 true),3,[]),
(q 58 3 1,4,[]),
(l 59 58,5,[]),
(k 60 134 [t 57,t 59],6,[]),
(m 7 60,7,[])])
(.seq (.seq (.reg [m 61 7,
b 62 .lss (t 61) (i 0)])
(.cond (t 62)
(.seq (.reg [d 4 (.mv (i 4))])
.ret)
.skip))
(.seq (.draw [(m 64 6,0,[]),
(d 65 (.idxS (t 64) (i 0) 4),1,[]),
(d 66 (.load (t 65) 4 true),2,[]),
(m 67 0,3,[]),
(d 68 (.nilc (t 67)),4,[]),
(q 69 68 0,5,[]),
(q 70 69 1,6,[]),
(l 71 70,7,[]),
(m 72 7,8,[]),
(d 73 (.idxS (t 71) (t 72) 2),9,[]),
(q 74 73 1,10,[]),
(l 75 74,11,[]),
(k 76 135 [t 66,t 75],12,[]),
(m 63 76,13,[]),
(d 77 (.ext (t 63) 0),14,[]),
(d 78 (.ext (t 63) 1),15,[]),
(m 8 77,16,[]),
(m 9 78,17,[])])
(.seq (.seq (.reg [m 79 9,
b 80 .neq (t 79) (i 0)])
(.cond (t 80)
(.seq (.reg [m 81 9,
m 4 81])
.ret)
.skip))
(.seq (.seq (.reg [m 82 6,
d 83 (.idxS (t 82) (i 1) 4),
q 84 83 0,
l 85 84,
b 86 .neq (t 85) (i 1)])
(.cond (t 86)
(.seq (.reg [d 4 (.mv (i 5))])
.ret)
.skip))
(.draw [(m 87 0,0,[]),
(d 88 (.nilc (t 87)),1,[]),
(q 89 88 5,2,[]),
(l 90 89,3,[]),
(m 91 7,4,[]),
(d 92 (.idxS (t 90) (t 91) 1),5,[]),
(l 93 92,6,[]),
(m 94 8,7,[]),
(m 95 6,8,[]),
(d 96 (.idxS (t 95) (i 1) 4),9,[]),
(q 97 96 1,10,[]),
(l 98 97,11,[]),
(d 99 (.idxS (t 93) (t 94) 1),12,[]),
(⟨none,none,.store (t 99) (t 98) 1⟩,13,[])]))))))
(.seq (.reg [b 101 .eql (t 26) (i 3),
m 100 101])
(.cond (t 100)
(.seq (.draw [(m 102 0,0,[]),
(d 103 (.load (t 3) 5 true),1,[]),
(m 104 6,2,[]),
(d 105 (.idxS (t 104) (i 0) 4),3,[]),
(d 106 (.load (t 105) 4 true),4,[]),
(k 107 136 [t 102,t 103,t 106],5,[]),
(m 4 107,6,[])])
.ret)
(.seq (.reg [b 109 .eql (t 26) (i 4),
m 108 109])
(.cond (t 108)
(.seq (.draw [(m 110 0,0,[]),
(d 111 (.load (t 3) 5 true),1,[]),
(m 112 6,2,[]),
(d 113 (.idxS (t 112) (i 0) 4),3,[]),
(d 114 (.load (t 113) 4 true),4,[]),
(m 115 6,5,[]),
(d 116 (.idxS (t 115) (i 1) 4),6,[]),
(d 117 (.load (t 116) 4 true),7,[]),
(k 118 137 [t 110,t 111,t 114,t 117],8,[]),
(m 4 118,9,[])])
.ret)
(.seq (.reg [b 120 .eql (t 26) (i 5),
m 119 120])
(.cond (t 119)
(.seq (.reg [m 121 0,
d 122 (.nilc (t 121)),
q 123 122 8,
l 124 123,
b 125 .gtr (t 124) (i 0)])
(.cond (t 125)
(.seq (.reg [d 4 (.mv (i 1))])
.ret)
.skip))
.skip))))))))))))
(.seq (.reg [d 4 (.mv (i 0))])
.ret))))))⟩
theorem tr110:trF Tryz.prog (y [] [] [] [(11,([0,0,2,6,14,0,32,126,0,256,0,1024,3072,7422,16382,32766,65534,131071,262143,524287],[(0,[]),(1,[]),(2,[]),(3,[]),(4,[]),(5,[]),(6,[]),(8,[]),(9,[]),(10,[]),(11,[]),(12,[]),(7,[8,11]),(13,[8]),(14,[]),(15,[]),(16,[]),(17,[]),(18,[]),(19,[])])),(13,([0,1,3,7,0,16,63,127],[(0,[]),(1,[]),(2,[]),(3,[]),(4,[]),(5,[]),(6,[]),(7,[])])),(16,([0,1,3,0,8,24,56,120,0,504,1016,2040,4095,8191,16383,16383,32767,131071],[(0,[]),(1,[]),(2,[]),(3,[]),(4,[]),(5,[]),(6,[]),(7,[]),(8,[]),(9,[]),(10,[]),(11,[]),(12,[]),(13,[]),(14,[]),(15,[]),(16,[]),(17,[])])),(21,([0,1,3,7,0,31,63,0,0,256,768,1792,4095,8191],[(0,[]),(1,[]),(2,[]),(3,[]),(4,[]),(5,[]),(6,[]),(7,[]),(8,[]),(9,[]),(10,[]),(11,[]),(12,[]),(13,[])])),(23,([0,0,0,4,12,31,63],[(0,[]),(1,[]),(2,[]),(3,[]),(4,[]),(5,[]),(6,[])])),(25,([0,0,0,4,12,0,32,96,255,511],[(0,[]),(1,[]),(2,[]),(3,[]),(4,[]),(5,[]),(6,[]),(7,[]),(8,[]),(9,[])]))] false) Tryz.f110=some ir110:=by kernel_rfl
def ir119:IFn:=⟨15,[],
.seq (.seq (.reg [m 2 0,
d 3 (.nilc (t 2)),
q 4 3 5,
l 5 4,
b 6 .geq (t 5) (i 10000)])
(.cond (t 6)
(.reg [k 7 96 [i 2]])
.skip))
(.reg [m 8 0,
d 9 (.nilc (t 8)),
q 10 9 5,
l 11 10,
b 12 .add (t 11) (i 1),
d 13 (.nilc (t 8)),
q 14 13 5,
⟨none,none,.store (t 14) (t 12) 1⟩])⟩
theorem tr119:trF Tryz.prog y0 Tryz.f119=some ir119:=by kernel_rfl
def ir120:IFn:=⟨101,[],
.seq (.reg [d 4 (.box (t 1) false)])
(.seq (.reg [q 9 4 0,
l 10 9])
(.block 0
(.seq (.reg [b 12 .eql (t 10) (i 1),
m 11 12])
(.cond (t 11)
(.seq (.seq (.reg [m 13 0,
q 14 4 1,
l 15 14,
k 16 95 [t 13,t 15]])
(.cond (t 16)
(.reg [k 17 96 [i 4]])
.skip))
(.draw [(m 18 0,0,[]),
(d 19 (.nilc (t 18)),1,[]),
(q 20 19 2,2,[]),
(l 21 20,3,[]),
(q 22 4 1,4,[]),
(l 23 22,5,[]),
(m 24 2,6,[]),
(d 25 (.idxS (t 24) (i 0) 4),7,[]),
(q 26 25 0,8,[]),
(l 27 26,9,[]),
(m 28 2,10,[]),
(d 29 (.idxS (t 28) (i 0) 4),11,[]),
(q 30 29 1,12,[]),
(l 31 30,13,[]),
(d 32 (.bld [i0,i0,(.bool false),w0] [(0,1,(t 27)),(1,1,(t 31))]),14,[]),
(⟨none,none,.mup .s (t 21) (t 23) (t 32)⟩,15,[])]))
(.seq (.reg [b 34 .eql (t 10) (i 2),
m 33 34])
(.cond (t 33)
(.seq (.draw [(m 36 0,0,[]),
(d 37 (.nilc (t 36)),1,[]),
(q 38 37 1,2,[]),
(l 39 38,3,[]),
(q 40 4 1,4,[]),
(l 41 40,5,[]),
(d 42 (.lkp .s (t 39) (t 41) i0 true),6,[]),
(m 35 42,7,[]),
(d 43 (.ext (t 35) 0),8,[]),
(d 44 (.ext (t 35) 1),9,[]),
(m 6 43,10,[]),
(m 7 44,11,[])])
(.seq (.seq (.reg [m 45 7,
d 46 (.un .not (t 45))])
(.cond (t 46)
(.reg [k 47 96 [i 4]])
.skip))
(.seq (.reg [m 48 2,
d 49 (.idxS (t 48) (i 0) 4),
d 50 (.load (t 49) 4 true),
m 51 6,
k 52 146 [t 50,t 51],
m 8 52])
(.seq (.reg [m 53 2,
d 54 (.idxS (t 53) (i 1) 4),
d 55 (.load (t 54) 4 true),
k 56 147 [t 55,i 1]])
(.draw [(m 57 0,0,[]),
(d 58 (.nilc (t 57)),1,[]),
(q 59 58 3,2,[]),
(l 60 59,3,[]),
(q 61 4 1,4,[]),
(l 62 61,5,[]),
(d 63 (.lkp .s (t 60) (t 62) (.vec [] .full) false),6,[]),
(m 64 8,7,[]),
(m 65 2,8,[]),
(d 66 (.idxS (t 65) (i 1) 4),9,[]),
(q 67 66 1,10,[]),
(l 68 67,11,[]),
(d 69 (.idxS (t 63) (t 64) 1),12,[]),
(⟨none,none,.store (t 69) (t 68) 1⟩,13,[])])))))
(.seq (.reg [b 71 .eql (t 10) (i 3),
m 70 71])
(.cond (t 70)
(.seq (.reg [m 72 2,
d 73 (.idxS (t 72) (i 0) 4),
d 74 (.load (t 73) 4 true),
k 75 147 [t 74,i 2]])
(.reg [m 76 0,
q 77 4 3,
l 78 77,
q 79 4 4,
l 80 79,
k 81 148 [t 76,t 78,t 80]]))
(.seq (.reg [b 83 .eql (t 10) (i 4),
m 82 83])
(.cond (t 82)
(.draw [(m 84 0,0,[]),
(d 85 (.load (t 4) 5 true),1,[]),
(m 86 2,2,[]),
(d 87 (.idxS (t 86) (i 0) 4),3,[]),
(d 88 (.load (t 87) 4 true),4,[]),
(m 89 2,5,[]),
(d 90 (.idxS (t 89) (i 1) 4),6,[]),
(d 91 (.load (t 90) 4 true),7,[]),
(k 92 149 [t 84,t 85,t 88,t 91],8,[])])
(.seq (.reg [b 94 .eql (t 10) (i 5),
m 93 94])
(.cond (t 93)
(.seq (.reg [m 95 0,
d 96 (.nilc (t 95)),
q 97 96 7,
l 98 97,
b 99 .gtr (t 98) (i 0)])
(.cond (t 99)
(.reg [k 100 96 [i 1]])
.skip))
.skip))))))))))))⟩
theorem tr120:trF Tryz.prog (y [] [] [] [(5,([0,1,3,7,0,16,0,64,192,448,0,1024,3072,7168,16320,32767],[(0,[]),(1,[]),(2,[]),(3,[]),(4,[]),(5,[]),(6,[]),(7,[]),(8,[]),(9,[]),(10,[]),(11,[]),(12,[]),(13,[]),(14,[]),(15,[])])),(7,([0,1,3,7,0,16,63,127,255,255,511,2047],[(0,[]),(1,[]),(2,[]),(3,[]),(4,[]),(5,[]),(6,[]),(7,[]),(8,[]),(9,[]),(10,[]),(11,[])])),(12,([0,1,3,7,0,16,63,0,0,256,768,1792,4095,8191],[(0,[]),(1,[]),(2,[]),(3,[]),(4,[]),(5,[]),(6,[]),(7,[]),(8,[]),(9,[]),(10,[]),(11,[]),(12,[]),(13,[])])),(17,([0,0,0,4,12,0,32,96,255],[(0,[]),(1,[]),(2,[]),(3,[]),(4,[]),(5,[]),(6,[]),(7,[]),(8,[])]))] false) Tryz.f120=some ir120:=by kernel_rfl
def ir121:IFn:=⟨22,[.tmp 4 false],
.seq (.reg [d 4 (.mv (.cst (.vec [] .full)))])
(.seq (.reg [d 5 (.mv (.cst (.vec [] .full)))])
(.seq (.seq (.reg [m 8 1,
d 9 (.len .i (t 8)),
d 10 (.mv (i 0))])
(.block 0
(.loop [0,5,8,9,10]
(.seq (.reg [b 11 .lss (t 10) (t 9)])
(.seq (.cond (t 11)
.skip
(.brk 0))
(.seq (.block 1
(.seq (.reg [d 12 (.idxS (t 8) (t 10) 5),
d 13 (.load (t 12) 5 true),
d 7 (.allocz [i0,i0,w0,s0,(.vec [] .full)] false),
⟨none,none,.store (t 7) (t 13) 5⟩])
(.reg [m 14 5,
m 15 0,
d 16 (.load (t 7) 5 true),
k 17 150 [t 15,t 16],
d 18 (.bsl 1 4 true [i0,i0,(.bool false),w0] [(0,4,(t 17))]),
d 19 (.app (t 14) (t 18) 4 32 true false),
m 5 19])))
(.reg [b 20 .add (t 10) (i 1),
m 10 20])))))))
(.seq (.reg [m 21 5,
m 4 21])
.ret)))⟩
theorem tr121:trF Tryz.prog (y [] [] [[0,5,8,9,10]] [] false) Tryz.f121=some ir121:=by kernel_rfl
def ir122:IFn:=⟨121,[.cell 4 4 true false],
.seq (.reg [d 3 (.box (t 1) false),
d 4 (.allocz [(.bool false),(.vec [] .full),(.bool false),w0] false)])
(.seq (.reg [d 5 (.mv (.cst (.vec [] .full)))])
(.seq (.seq (.reg [q 10 3 4,
l 11 10,
d 12 (.len .i (t 11)),
d 13 (.mv (i 0))])
(.block 0
(.loop [0,3,4,5,11,12,13]
(.seq (.reg [b 14 .lss (t 13) (t 12)])
(.seq (.cond (t 14)
.skip
(.brk 0))
(.seq (.block 1
(.seq (.reg [d 15 (.idxS (t 11) (t 13) 5),
d 16 (.load (t 15) 5 true),
d 7 (.allocz [i0,i0,w0,s0,(.vec [] .full)] false),
⟨none,none,.store (t 7) (t 16) 5⟩])
(.reg [m 17 5,
m 18 0,
d 19 (.load (t 7) 5 true),
k 20 122 [t 18,t 19],
d 21 (.bsl 1 4 true [(.bool false),v0,(.bool false),w0] [(0,4,(t 20))]),
d 22 (.app (t 17) (t 21) 4 48 true false),
m 5 22])))
(.reg [b 23 .add (t 13) (i 1),
m 13 23])))))))
(.seq (.seq (.reg [q 24 3 0,
l 25 24])
(.block 2
(.seq (.reg [b 27 .eql (t 25) (i 1),
m 26 27])
(.cond (t 26)
(.seq (.draw [(m 28 0,0,[]),
(q 29 3 2,1,[]),
(l 30 29,2,[]),
(q 31 3 2,3,[]),
(l 32 31,4,[]),
(k 33 71 [t 32],5,[2]),
(k 34 66 [t 28,t 30,t 33],6,[]),
(⟨none,none,.store (t 4) (t 34) 4⟩,7,[])])
.ret)
(.seq (.reg [b 36 .eql (t 25) (i 2),
m 35 36])
(.cond (t 35)
(.seq (.seq (.draw [(m 38 0,0,[]),
(d 39 (.nilc (t 38)),1,[]),
(q 40 39 6,2,[]),
(l 41 40,3,[]),
(q 42 3 3,4,[]),
(l 43 42,5,[]),
(d 44 (.lkp .s (t 41) (t 43) w0 true),6,[]),
(m 37 44,7,[]),
(d 45 (.ext (t 37) 0),8,[]),
(d 46 (.ext (t 37) 1),9,[]),
(m 8 45,10,[]),
(m 9 46,11,[])])
(.seq (.reg [m 47 9])
(.cond (t 47)
(.seq (.reg [m 48 0,
m 49 8,
m 50 8,
k 51 71 [t 50],
k 52 66 [t 48,t 49,t 51],
⟨none,none,.store (t 4) (t 52) 4⟩])
.ret)
.skip)))
(.seq (.draw [(m 53 0,0,[]),
(d 54 (.nilc (t 53)),1,[]),
(q 55 54 4,2,[]),
(l 56 55,3,[]),
(q 57 3 3,4,[]),
(l 58 57,5,[]),
(d 59 (.lkp .s (t 56) (t 58) (.agg [(.bool false),v0,(.bool false),w0]) false),6,[]),
(⟨none,none,.store (t 4) (t 59) 4⟩,7,[])])
.ret))
(.seq (.reg [b 61 .eql (t 25) (i 3),
m 60 61])
(.cond (t 60)
(.seq (.draw [(m 62 0,0,[]),
(d 63 (.nilc (t 62)),1,[]),
(q 64 63 5,2,[]),
(l 65 64,3,[]),
(q 66 3 3,4,[]),
(l 67 66,5,[]),
(d 68 (.lkp .s (t 65) (t 67) (.vec [] .full) false),6,[]),
(m 69 5,7,[]),
(d 70 (.idxS (t 69) (i 0) 4),8,[]),
(q 71 70 3,9,[]),
(l 72 71,10,[]),
(d 73 (.idxS (t 68) (t 72) 4),11,[]),
(d 74 (.load (t 73) 4 true),12,[]),
(⟨none,none,.store (t 4) (t 74) 4⟩,13,[])])
.ret)
(.seq (.reg [b 76 .eql (t 25) (i 4),
m 75 76])
(.cond (t 75)
(.seq (.draw [(m 77 0,0,[]),
(q 78 3 1,1,[]),
(l 79 78,2,[]),
(m 80 5,3,[]),
(d 81 (.idxS (t 80) (i 0) 4),4,[]),
(d 82 (.load (t 81) 4 true),5,[]),
(m 83 5,6,[]),
(d 84 (.idxS (t 83) (i 1) 4),7,[]),
(d 85 (.load (t 84) 4 true),8,[]),
(k 86 151 [t 77,t 79,t 82,t 85],9,[]),
(⟨none,none,.store (t 4) (t 86) 4⟩,10,[])])
.ret)
(.seq (.reg [b 88 .eql (t 25) (i 5),
m 87 88])
(.cond (t 87)
(.seq (.reg [m 89 0,
m 90 0,
d 91 (.bld [i0,i0,i0] [(0,1,(i 102)),(1,1,(i 1)),(2,1,(i 0))]),
k 92 152 [t 90,t 91],
k 93 63 [t 89,t 92]])
(.seq (.draw [(m 94 0,0,[]),
(d 95 (.nilc (t 94)),1,[]),
(q 96 95 1,2,[]),
(l 97 96,3,[]),
(m 98 5,4,[]),
(d 99 (.idxS (t 98) (i 0) 4),5,[]),
(q 100 99 1,6,[]),
(l 101 100,7,[]),
(d 102 (.idxS (t 101) (i 0) 1),8,[]),
(l 103 102,9,[]),
(k 104 153 [t 97,t 103],10,[]),
(d 105 (.bsl 1 1 false [i0] [(0,1,(t 104))]),11,[]),
(d 106 (.bld [(.bool false),v0,(.bool false),w0] [(0,1,(.cst (.bool true))),(1,1,(t 105))]),12,[]),
(⟨none,none,.store (t 4) (t 106) 4⟩,13,[])])
.ret))
.skip))))))))))))
(.seq (.draw [(m 107 0,0,[]),
(m 108 5,1,[]),
(d 109 (.idxS (t 108) (i 0) 4),2,[]),
(q 110 109 1,3,[]),
(l 111 110,4,[]),
(d 112 (.idxS (t 111) (i 0) 1),5,[]),
(l 113 112,6,[]),
(m 114 5,7,[]),
(d 115 (.idxS (t 114) (i 1) 4),8,[]),
(d 116 (.load (t 115) 4 true),9,[]),
(m 117 5,10,[]),
(d 118 (.idxS (t 117) (i 2) 4),11,[]),
(d 119 (.load (t 118) 4 true),12,[]),
(k 120 154 [t 107,t 113,t 116,t 119],13,[]),
(⟨none,none,.store (t 4) (t 120) 4⟩,14,[])])
.ret))))⟩
theorem tr122:trF Tryz.prog (y [] [] [[0,3,4,5,11,12,13]] [(9,([0,0,2,0,8,24,63,127],[(0,[]),(1,[]),(2,[]),(3,[]),(4,[]),(5,[2]),(6,[]),(7,[])])),(11,([0,1,3,7,0,16,63,127,255,255,511,2047],[(0,[]),(1,[]),(2,[]),(3,[]),(4,[]),(5,[]),(6,[]),(7,[]),(8,[]),(9,[]),(10,[]),(11,[])])),(14,([0,1,3,7,0,16,63,127],[(0,[]),(1,[]),(2,[]),(3,[]),(4,[]),(5,[]),(6,[]),(7,[])])),(16,([0,1,3,7,0,16,63,0,128,384,896,2047,4095,8191],[(0,[]),(1,[]),(2,[]),(3,[]),(4,[]),(5,[]),(6,[]),(7,[]),(8,[]),(9,[]),(10,[]),(11,[]),(12,[]),(13,[])])),(18,([0,0,2,0,8,24,0,64,192,511,1023],[(0,[]),(1,[]),(2,[]),(3,[]),(4,[]),(5,[]),(6,[]),(7,[]),(8,[]),(9,[]),(10,[])])),(21,([0,1,3,7,0,16,48,112,240,496,1023,2047,4095,8191],[(0,[]),(1,[]),(2,[]),(3,[]),(4,[]),(5,[]),(6,[]),(7,[]),(8,[]),(9,[]),(10,[]),(11,[]),(12,[]),(13,[])])),(22,([0,0,2,6,14,30,62,0,128,384,0,1024,3072,8191,16383],[(0,[]),(1,[]),(2,[]),(3,[]),(4,[]),(5,[]),(6,[]),(7,[]),(8,[]),(9,[]),(10,[]),(11,[]),(12,[]),(13,[]),(14,[])]))] false) Tryz.f122=some ir122:=by kernel_rfl
def ir123:IFn:=⟨130,[],
.seq (.reg [d 5 (.box (t 2) false)])
(.seq (.draw [(m 19 0,0,[]),
(d 20 (.nilc (t 19)),1,[]),
(q 21 20 4,2,[]),
(l 22 21,3,[]),
(m 24 0,5,[]),
(d 25 (.nilc (t 24)),6,[]),
(q 26 25 5,7,[]),
(l 27 26,8,[]),
(k 23 155 [t 22],4,[7]),
(k 28 156 [t 27],9,[]),
(m 6 23,10,[]),
(m 7 28,11,[])])
(.seq (.reg [m 29 0,
q 30 5 3,
l 31 30,
k 32 67 [t 29,t 31]])
(.seq (.draw [(m 33 0,0,[]),
(d 34 (.nilc (t 33)),1,[]),
(q 35 34 4,2,[]),
(l 36 35,3,[]),
(m 37 0,4,[]),
(d 38 (.nilc (t 37)),5,[]),
(q 39 38 5,6,[]),
(l 40 39,7,[]),
(m 8 36,8,[]),
(m 9 40,9,[])])
(.seq (.reg [m 41 0,
m 42 0,
m 43 6,
k 44 155 [t 43],
m 45 7,
d 46 (.nilc (t 41)),
q 47 46 4,
⟨none,none,.store (t 47) (t 44) 1⟩,
d 48 (.nilc (t 42)),
q 49 48 5,
⟨none,none,.store (t 49) (t 45) 1⟩])
(.seq (.reg [m 50 0,
q 51 5 4,
l 52 51,
k 53 67 [t 50,t 52]])
(.seq (.reg [d 54 (.mkM),
m 10 54])
(.seq (.seq (.reg [m 55 6,
d 56 (.rng (t 55))])
(.block 0
(.loop [0,1,8,9,10,56]
(.seq (.reg [d 57 (.nxt (t 56)),
d 58 (.ext (t 57) 0)])
(.seq (.cond (t 58)
.skip
(.brk 0))
(.block 1
(.seq (.reg [d 59 (.ent (t 56)),
d 60 (.ext (t 59) 0),
m 11 60])
(.seq (.reg [m 62 8,
m 63 11,
d 64 (.lkp .s (t 62) (t 63) (.agg [(.bool false),v0,(.bool false),w0]) true),
m 61 64,
d 65 (.ext (t 61) 0),
d 66 (.ext (t 61) 1),
d 12 (.allocz [(.bool false),(.vec [] .full),(.bool false),w0] false),
⟨none,none,.store (t 12) (t 65) 4⟩,
m 13 66])
(.seq (.reg [m 68 0,
d 69 (.nilc (t 68)),
q 70 69 4,
l 71 70,
m 72 11,
d 73 (.lkp .s (t 71) (t 72) (.agg [(.bool false),v0,(.bool false),w0]) true),
m 67 73,
d 74 (.ext (t 67) 0),
d 75 (.ext (t 67) 1),
d 14 (.allocz [(.bool false),(.vec [] .full),(.bool false),w0] false),
⟨none,none,.store (t 14) (t 74) 4⟩,
m 15 75])
(.seq (.reg [m 76 13,
m 77 76,
⟨some 78,some (77,true),.mv (t 15)⟩,
d 79 (.pick (t 77) (t 78) (.cst (.bool false))),
m 80 79,
⟨some 81,some (80,true),.fad (t 12) 0⟩,
⟨some 82,some (80,true),.load (t 81) 1 false⟩,
⟨some 83,some (80,true),.fad (t 14) 0⟩,
⟨some 84,some (80,true),.load (t 83) 1 false⟩,
⟨some 85,some (80,true),.bin .eql .bool (t 82) (t 84)⟩,
d 86 (.pick (t 80) (t 85) (.cst (.bool false)))])
(.cond (t 86)
(.reg [m 87 10,
m 88 11,
m 89 0,
m 90 1,
d 91 (.load (t 12) 4 true),
d 92 (.load (t 14) 4 true),
k 93 154 [t 89,t 90,t 91,t 92],
⟨none,none,.mup .s (t 87) (t 88) (t 93)⟩])
.skip)))))))))))
(.seq (.reg [m 94 0,
m 95 10,
d 96 (.nilc (t 94)),
q 97 96 4,
⟨none,none,.store (t 97) (t 95) 1⟩])
(.seq (.reg [m 98 0,
d 99 (.nilc (t 98)),
q 100 99 5,
l 101 100,
d 102 (.rng (t 101))])
(.block 2
(.loop [0,1,9,102]
(.seq (.reg [d 103 (.nxt (t 102)),
d 104 (.ext (t 103) 0)])
(.seq (.cond (t 104)
.skip
(.brk 2))
(.block 3
(.seq (.reg [d 105 (.ent (t 102)),
d 106 (.ext (t 105) 0),
d 107 (.ext (t 105) 1),
m 16 106,
m 17 107])
(.seq (.reg [m 108 17,
d 109 (.len .i (t 108)),
d 110 (.mv (i 0))])
(.block 4
(.loop [0,1,9,16,17,102,109,110]
(.seq (.reg [b 111 .lss (t 110) (t 109)])
(.seq (.cond (t 111)
.skip
(.brk 4))
(.seq (.block 5
(.seq (.reg [m 112 110,
m 18 112])
(.draw [(m 113 17,0,[]),
(m 114 18,1,[]),
(m 115 0,2,[]),
(m 116 1,3,[]),
(m 117 9,4,[]),
(m 118 16,5,[]),
(d 119 (.lkp .s (t 117) (t 118) (.vec [] .full) false),6,[]),
(m 120 18,7,[]),
(d 121 (.idxS (t 119) (t 120) 4),8,[]),
(d 122 (.load (t 121) 4 true),9,[]),
(m 123 17,10,[]),
(m 124 18,11,[]),
(d 125 (.idxS (t 123) (t 124) 4),12,[]),
(d 126 (.load (t 125) 4 true),13,[]),
(k 127 154 [t 115,t 116,t 122,t 126],14,[]),
(d 128 (.idxS (t 113) (t 114) 4),15,[]),
(⟨none,none,.store (t 128) (t 127) 4⟩,16,[])])))
(.reg [b 129 .add (t 110) (i 1),
m 110 129]))))))))))))))))))))))⟩
theorem tr123:trF Tryz.prog (y [] [] [[0,1,8,9,10,56],[0,1,9,102],[0,1,9,16,17,102,109,110]] [(1,([0,1,3,7,15,0,32,96,224,511,1023,2047],[(0,[]),(1,[]),(2,[]),(3,[]),(5,[]),(6,[]),(7,[]),(8,[]),(4,[7]),(9,[]),(10,[]),(11,[])])),(3,([0,1,3,7,0,16,48,112,15,511],[(0,[]),(1,[]),(2,[]),(3,[]),(4,[]),(5,[]),(6,[]),(7,[]),(8,[]),(9,[])])),(21,([0,0,0,0,0,0,48,0,240,496,0,0,3072,7168,16380,32767,65535],[(0,[]),(1,[]),(2,[]),(3,[]),(4,[]),(5,[]),(6,[]),(7,[]),(8,[]),(9,[]),(10,[]),(11,[]),(12,[]),(13,[]),(14,[]),(15,[]),(16,[])]))] false) Tryz.f123=some ir123:=by kernel_rfl
def ir124:IFn:=⟨49,[],
.seq (.reg [d 3 (.box (t 1) false)])
(.seq (.seq (.reg [m 4 0,
d 5 (.nilc (t 4)),
q 6 5 8,
l 7 6,
b 8 .add (t 7) (i 1),
d 9 (.nilc (t 4)),
q 10 9 8,
⟨none,none,.store (t 10) (t 8) 1⟩])
(.seq (.reg [m 11 0,
d 12 (.nilc (t 11)),
q 13 12 8,
l 14 13,
b 15 .gtr (t 14) (i 1000)])
(.cond (t 15)
(.reg [d 16 (.bld [] []),
d 17 (.mkI 115 (t 16)),
⟨none,none,.pan (t 17)⟩])
.skip)))
(.seq (.seq (.reg [q 18 3 0,
l 19 18])
(.cond (t 19)
(.seq (.draw [(m 20 0,0,[]),
(d 21 (.nilc (t 20)),1,[]),
(q 22 21 1,2,[]),
(l 23 22,3,[]),
(q 24 3 1,4,[]),
(l 25 24,5,[]),
(d 26 (.idxS (t 25) (i 0) 1),6,[]),
(l 27 26,7,[]),
(k 28 157 [t 23,t 27],8,[])])
.ret)
.skip))
(.seq (.reg [m 29 0,
m 30 0,
q 31 3 1,
l 32 31,
d 33 (.len .i (t 32)),
d 34 (.bld [i0,i0,i0] [(0,1,(i 100)),(1,1,(t 33)),(2,1,(i 0))]),
k 35 152 [t 30,t 34],
k 36 63 [t 29,t 35]])
(.draw [(m 37 0,0,[]),
(d 38 (.nilc (t 37)),1,[]),
(q 39 38 1,2,[]),
(l 40 39,3,[]),
(m 41 0,4,[]),
(d 42 (.nilc (t 41)),5,[]),
(q 43 42 1,6,[]),
(l 44 43,7,[]),
(q 45 3 1,8,[]),
(l 46 45,9,[]),
(k 47 158 [t 44,t 46],10,[3]),
(k 48 157 [t 40,t 47],11,[])]))))⟩
theorem tr124:trF Tryz.prog (y [] [] [] [(5,([0,1,3,7,0,16,48,112,255],[(0,[]),(1,[]),(2,[]),(3,[]),(4,[]),(5,[]),(6,[]),(7,[]),(8,[])])),(7,([0,1,3,7,0,16,48,112,0,256,1008,2047],[(0,[]),(1,[]),(2,[]),(3,[]),(4,[]),(5,[]),(6,[]),(7,[]),(8,[]),(9,[]),(10,[3]),(11,[])]))] false) Tryz.f124=some ir124:=by kernel_rfl
def ir125:IFn:=⟨15,[.tmp 2 false],
.seq (.reg [d 1 (.box (t 0) false),
d 2 (.mv (i 0))])
(.seq (.seq (.reg [q 3 1 0,
l 4 3])
(.block 0
(.seq (.seq (.reg [b 6 .eql (t 4) (i 1),
m 5 6])
(.cond (t 5)
.skip
(.reg [b 7 .eql (t 4) (i 2),
m 5 7])))
(.cond (t 5)
(.seq (.reg [d 2 (.mv (i 0))])
.ret)
(.seq (.seq (.reg [b 9 .eql (t 4) (i 3),
m 8 9])
(.cond (t 8)
.skip
(.reg [b 10 .eql (t 4) (i 5),
m 8 10])))
(.cond (t 8)
(.seq (.reg [d 2 (.mv (i 1))])
.ret)
(.seq (.reg [b 12 .eql (t 4) (i 4),
m 11 12])
(.cond (t 11)
(.seq (.reg [d 2 (.mv (i 2))])
.ret)
(.seq (.reg [b 14 .eql (t 4) (i 6),
m 13 14])
(.cond (t 13)
(.seq (.reg [d 2 (.mv (i 3))])
.ret)
.skip))))))))))
(.seq (.reg [d 2 (.mv (.cst (.int .i64 (-1))))])
.ret))⟩
theorem tr125:trF Tryz.prog y0 Tryz.f125=some ir125:=by kernel_rfl
def ir126:IFn:=⟨15,[.tmp 4 false],
.seq (.reg [d 2 (.box (t 0) false),
d 4 (.mv (.cst s0))])
(.seq (.seq (.reg [d 5 (.load (t 2) 5 true),
k 6 127 [t 5],
m 7 1,
b 8 .lss (t 6) (t 7)])
(.cond (t 8)
(.seq (.reg [d 9 (.load (t 2) 5 true),
k 10 109 [t 9],
b 11 .add (.cst (.str ⟨#[40]⟩)) (t 10),
b 12 .add (t 11) (.cst (.str ⟨#[41]⟩)),
m 4 12])
.ret)
.skip))
(.seq (.reg [d 13 (.load (t 2) 5 true),
k 14 109 [t 13],
m 4 14])
.ret))⟩
theorem tr126:trF Tryz.prog y0 Tryz.f126=some ir126:=by kernel_rfl
def ir127:IFn:=⟨23,[.tmp 2 false],
.seq (.reg [d 1 (.box (t 0) false),
d 2 (.mv (i 0))])
(.seq (.seq (.reg [q 3 1 0,
l 4 3])
(.block 0
(.seq (.reg [b 6 .eql (t 4) (i 6),
m 5 6])
(.cond (t 5)
(.seq (.reg [d 2 (.mv (i 1))])
.ret)
(.seq (.reg [b 8 .eql (t 4) (i 5),
m 7 8])
(.cond (t 7)
(.seq (.reg [d 2 (.mv (i 8))])
.ret)
(.seq (.reg [b 10 .eql (t 4) (i 4),
m 9 10])
(.cond (t 9)
(.seq (.seq (.reg [q 11 1 1,
l 12 11])
(.block 1
(.seq (.reg [b 14 .eql (t 12) (i 7),
m 13 14])
(.cond (t 13)
(.seq (.reg [d 2 (.mv (i 2))])
.ret)
(.seq (.reg [b 16 .eql (t 12) (i 6),
m 15 16])
(.cond (t 15)
(.seq (.reg [d 2 (.mv (i 3))])
.ret)
(.seq (.reg [b 18 .eql (t 12) (i 5),
m 17 18])
(.cond (t 17)
(.seq (.reg [d 2 (.mv (i 4))])
.ret)
(.seq (.reg [b 20 .eql (t 12) (i 4),
m 19 20])
(.cond (t 19)
(.seq (.reg [d 2 (.mv (i 5))])
.ret)
(.seq (.reg [b 22 .eql (t 12) (i 3),
m 21 22])
(.cond (t 21)
(.seq (.reg [d 2 (.mv (i 7))])
.ret)
.skip))))))))))))
(.seq (.reg [d 2 (.mv (i 6))])
.ret))
.skip))))))))
(.seq (.reg [d 2 (.mv (i 9))])
.ret))⟩
theorem tr127:trF Tryz.prog y0 Tryz.f127=some ir127:=by kernel_rfl
def ir128:IFn:=⟨10,[.tmp 2 false],
.seq (.reg [d 2 (.mv (.cst s0))])
(.seq (.reg [d 4 (.bsl 7 1 false [s0] [(0,1,(.cst (.str ⟨#[43]⟩))),(1,1,(.cst (.str ⟨#[45]⟩))),(2,1,(.cst (.str ⟨#[42]⟩))),(3,1,(.cst (.str ⟨#[60]⟩))),(4,1,(.cst (.str ⟨#[61,61]⟩))),(5,1,(.cst (.str ⟨#[38]⟩))),(6,1,(.cst (.str ⟨#[124]⟩)))]),
m 3 4])
(.seq (.reg [m 5 3,
m 6 0,
b 7 .sub (t 6) (i 1),
d 8 (.idxS (t 5) (t 7) 1),
l 9 8,
m 2 9])
.ret))⟩
theorem tr128:trF Tryz.prog y0 Tryz.f128=some ir128:=by kernel_rfl
def ir129:IFn:=⟨15,[.tmp 2 false],
.seq (.reg [d 2 (.mv (i 0))])
(.seq (.seq (.reg [m 3 0,
d 4 (.nilc (t 3)),
q 5 4 6,
l 6 5,
b 7 .geq (t 6) (i 10000)])
(.cond (t 7)
(.seq (.reg [d 2 (.mv (i 2))])
.ret)
.skip))
(.seq (.reg [m 8 0,
d 9 (.nilc (t 8)),
q 10 9 6,
l 11 10,
b 12 .add (t 11) (i 1),
d 13 (.nilc (t 8)),
q 14 13 6,
⟨none,none,.store (t 14) (t 12) 1⟩])
(.seq (.reg [d 2 (.mv (i 0))])
.ret)))⟩
theorem tr129:trF Tryz.prog y0 Tryz.f129=some ir129:=by kernel_rfl
def ir130:IFn:=⟨33,[.tmp 4 false,.tmp 5 false],
.seq (.reg [d 4 (.mv (.cst (.vec [] .full))),
d 5 (.mv (i 0))])
(.seq (.reg [d 6 (.mv (.cst (.vec [] .full)))])
(.seq (.seq (.reg [d 7 (.mv (i 0))])
(.block 0
(.loop [0,1,6,7]
(.seq (.seq (.reg [m 10 7,
m 11 1,
d 12 (.len .i (t 11)),
b 13 .lss (t 10) (t 12)])
(.cond (t 13)
.skip
(.brk 0)))
(.seq (.block 1
(.seq (.reg [m 17 0,
m 18 1,
m 19 7,
d 20 (.idxS (t 18) (t 19) 5),
d 21 (.load (t 20) 5 true),
k 22 159 [t 17,t 21],
m 16 22,
d 23 (.ext (t 16) 0),
d 24 (.ext (t 16) 1),
d 8 (.allocz [i0,i0,(.bool false),w0] false),
⟨none,none,.store (t 8) (t 23) 4⟩,
m 9 24])
(.seq (.seq (.reg [m 25 9,
b 26 .neq (t 25) (i 0)])
(.cond (t 26)
(.seq (.reg [m 27 9,
d 4 (.mv (.cst (.vec [] .full))),
m 5 27])
.ret)
.skip))
(.reg [m 28 6,
d 29 (.load (t 8) 4 true),
d 30 (.bsl 1 4 true [i0,i0,(.bool false),w0] [(0,4,(t 29))]),
d 31 (.app (t 28) (t 30) 4 32 true false),
m 6 31]))))
(.reg [m 14 7,
b 15 .add (t 14) (i 1),
m 7 15]))))))
(.seq (.reg [m 32 6,
m 4 32,
d 5 (.mv (i 0))])
.ret)))⟩
theorem tr130:trF Tryz.prog (y [] [] [[0,1,6,7]] [] false) Tryz.f130=some ir130:=by kernel_rfl
def ir131:IFn:=⟨30,[.tmp 4 false],
.seq (.reg [d 4 (.mv (.cst (.bool false)))])
(.seq (.reg [m 5 0,
d 6 (.nilc (t 5)),
q 7 6 0,
d 8 (.load (t 7) 3 true),
m 9 1,
k 10 160 [t 8,t 9],
b 11 .geq (t 10) (i 0),
m 12 11,
⟨some 13,some (12,false),.mv (t 0)⟩,
⟨some 14,some (12,false),.nilc (t 13)⟩,
⟨some 15,some (12,false),.fad (t 14) 0⟩,
⟨some 16,some (12,false),.load (t 15) 3 true⟩,
⟨some 17,some (12,false),.mv (t 1)⟩,
⟨some 18,some (12,false),.call 134 [t 16,t 17]⟩,
⟨some 19,some (12,false),.bin .geq .plain (t 18) (i 0)⟩,
d 20 (.pick (t 12) (.cst (.bool true)) (t 19)),
m 21 20,
⟨some 22,some (21,false),.mv (t 0)⟩,
⟨some 23,some (21,false),.nilc (t 22)⟩,
⟨some 24,some (21,false),.fad (t 23) 4⟩,
⟨some 25,some (21,false),.load (t 24) 1 false⟩,
⟨some 26,some (21,false),.mv (t 1)⟩,
⟨some 27,some (21,false),.call 161 [t 25,t 26]⟩,
⟨some 28,some (21,false),.bin .geq .plain (t 27) (i 0)⟩,
d 29 (.pick (t 21) (.cst (.bool true)) (t 28)),
m 4 29])
.ret)⟩
theorem tr131:trF Tryz.prog y0 Tryz.f131=some ir131:=by kernel_rfl
def ir132:IFn:=⟨28,[.tmp 4 true],
.seq (.reg [d 4 (.mv (.cst (.vec [] .full)))])
(.seq (.reg [d 5 (.mv (.cst (.vec [] .full)))])
(.seq (.seq (.reg [d 6 (.mv (i 0))])
(.block 0
(.loop [0,1,5,6]
(.seq (.seq (.reg [m 7 6,
m 8 0,
d 9 (.len .i (t 8)),
b 10 .lss (t 7) (t 9)])
(.cond (t 10)
.skip
(.brk 0)))
(.seq (.block 1
(.seq (.reg [m 13 0,
m 14 6,
d 15 (.idxS (t 13) (t 14) 5),
q 16 15 0,
l 17 16,
m 18 1,
b 19 .neq (t 17) (t 18)])
(.cond (t 19)
(.reg [m 20 5,
m 21 0,
m 22 6,
d 23 (.idxS (t 21) (t 22) 5),
d 24 (.load (t 23) 5 true),
d 25 (.bsl 1 5 true [s0,i0,i0,(.bool false),w0] [(0,5,(t 24))]),
d 26 (.app (t 20) (t 25) 5 48 true false),
m 5 26])
.skip)))
(.reg [m 11 6,
b 12 .add (t 11) (i 1),
m 6 12]))))))
(.seq (.reg [m 27 5,
m 4 27])
.ret)))⟩
theorem tr132:trF Tryz.prog (y [] [] [[0,1,5,6]] [] true) Tryz.f132=some ir132:=by kernel_rfl
def ir133:IFn:=⟨8,[.cell 2 4 true false],
.seq (.reg [d 1 (.box (t 0) false),
d 2 (.allocz [i0,i0,(.bool false),w0] false)])
(.seq (.reg [q 3 1 0,
l 4 3,
q 5 1 1,
l 6 5,
d 7 (.bld [i0,i0,(.bool false),w0] [(0,1,(t 4)),(1,1,(t 6))]),
⟨none,none,.store (t 2) (t 7) 4⟩])
.ret)⟩
theorem tr133:trF Tryz.prog y0 Tryz.f133=some ir133:=by kernel_rfl
def ir134:IFn:=⟨22,[.tmp 4 false],
.seq (.reg [d 2 (.box (t 0) false),
d 4 (.mv (i 0))])
(.seq (.seq (.reg [d 5 (.mv (i 0))])
(.block 0
(.loop [1,2,5]
(.seq (.seq (.reg [m 6 5,
q 7 2 1,
l 8 7,
d 9 (.len .i (t 8)),
b 10 .lss (t 6) (t 9)])
(.cond (t 10)
.skip
(.brk 0)))
(.seq (.block 1
(.seq (.reg [q 13 2 1,
l 14 13,
m 15 5,
d 16 (.idxS (t 14) (t 15) 2),
q 17 16 0,
l 18 17,
m 19 1,
b 20 .eql (t 18) (t 19)])
(.cond (t 20)
(.seq (.reg [m 21 5,
m 4 21])
.ret)
.skip)))
(.reg [m 11 5,
b 12 .add (t 11) (i 1),
m 5 12]))))))
(.seq (.reg [d 4 (.mv (.cst (.int .i64 (-1))))])
.ret))⟩
theorem tr134:trF Tryz.prog (y [] [] [[1,2,5]] [] false) Tryz.f134=some ir134:=by kernel_rfl
def ir135:IFn:=⟨22,[.tmp 4 false,.tmp 5 false],
.seq (.reg [d 2 (.box (t 0) false),
d 4 (.mv (i 0)),
d 5 (.mv (i 0))])
(.seq (.seq (.reg [q 6 2 0,
l 7 6,
b 8 .neq (t 7) (i 1),
m 9 8,
⟨some 10,some (9,false),.fad (t 2) 2⟩,
⟨some 11,some (9,false),.load (t 10) 1 false⟩,
⟨some 12,some (9,false),.un .not (t 11)⟩,
d 13 (.pick (t 9) (.cst (.bool true)) (t 12))])
(.cond (t 13)
(.seq (.reg [d 4 (.mv (i 0)),
d 5 (.mv (i 1))])
.ret)
.skip))
(.seq (.seq (.reg [q 14 2 3,
l 15 14,
m 16 1,
d 17 (.cvI .u64 (t 16)),
b 18 .geq (t 15) (t 17)])
(.cond (t 18)
(.seq (.reg [d 4 (.mv (i 0)),
d 5 (.mv (i 13))])
.ret)
.skip))
(.seq (.reg [q 19 2 3,
l 20 19,
d 21 (.cvI .i64 (t 20)),
m 4 21,
d 5 (.mv (i 0))])
.ret)))⟩
theorem tr135:trF Tryz.prog y0 Tryz.f135=some ir135:=by kernel_rfl
def ir136:IFn:=⟨126,[.tmp 6 false],
.seq (.reg [d 4 (.box (t 1) false),
d 5 (.box (t 2) false),
d 6 (.mv (i 0))])
(.seq (.seq (.reg [q 14 5 0,
l 15 14,
b 16 .neq (t 15) (i 2)])
(.cond (t 16)
(.seq (.reg [d 6 (.mv (i 5))])
.ret)
.skip))
(.seq (.draw [(d 17 (.bsl 0 5 true [s0,i0,i0,(.bool false),w0] []),0,[]),
(m 18 0,1,[]),
(d 19 (.nilc (t 18)),2,[]),
(q 20 19 3,3,[]),
(l 21 20,4,[]),
(m 23 0,6,[]),
(d 24 (.nilc (t 23)),7,[]),
(q 25 24 5,8,[]),
(l 26 25,9,[]),
(d 22 (.app (t 17) (t 21) 5 48 true false),5,[8]),
(k 27 162 [t 26],10,[]),
(m 7 22,11,[]),
(m 8 27,12,[])])
(.seq (.reg [m 28 0,
d 29 (.nilc (t 28)),
q 30 29 8,
l 31 30,
b 32 .add (t 31) (i 1),
d 33 (.nilc (t 28)),
q 34 33 8,
⟨none,none,.store (t 34) (t 32) 1⟩])
(.seq (.reg [m 35 0,
q 36 4 3,
l 37 36,
k 38 86 [t 35,t 37],
m 9 38])
(.seq (.seq (.reg [m 39 9,
b 40 .neq (t 39) (i 0)])
(.cond (t 40)
(.seq (.reg [m 41 9,
m 6 41])
.ret)
.skip))
(.seq (.draw [(m 42 0,0,[]),
(d 43 (.nilc (t 42)),1,[]),
(q 44 43 3,2,[]),
(l 45 44,3,[]),
(m 46 0,4,[]),
(d 47 (.nilc (t 46)),5,[]),
(q 48 47 5,6,[]),
(l 49 48,7,[]),
(m 10 45,8,[]),
(m 11 49,9,[])])
(.seq (.reg [m 50 0,
m 51 0,
d 52 (.bsl 0 5 true [s0,i0,i0,(.bool false),w0] []),
m 53 7,
d 54 (.app (t 52) (t 53) 5 48 true false),
m 55 8,
d 56 (.nilc (t 50)),
q 57 56 3,
⟨none,none,.store (t 57) (t 54) 1⟩,
d 58 (.nilc (t 51)),
q 59 58 5,
⟨none,none,.store (t 59) (t 55) 1⟩])
(.seq (.reg [m 60 0,
q 61 4 4,
l 62 61,
k 63 86 [t 60,t 62],
m 9 63])
(.seq (.seq (.reg [m 64 9,
b 65 .neq (t 64) (i 0)])
(.cond (t 65)
(.seq (.reg [m 66 9,
m 6 66])
.ret)
.skip))
(.seq (.reg [m 67 0,
d 68 (.nilc (t 67)),
q 69 68 8,
l 70 69,
b 71 .sub (t 70) (i 1),
d 72 (.nilc (t 67)),
q 73 72 8,
⟨none,none,.store (t 73) (t 71) 1⟩])
(.seq (.reg [m 74 0,
m 75 7,
m 76 10,
m 77 0,
d 78 (.nilc (t 77)),
q 79 78 3,
l 80 79,
k 81 163 [t 75,t 76,t 80],
d 82 (.nilc (t 74)),
q 83 82 3,
⟨none,none,.store (t 83) (t 81) 1⟩])
(.seq (.seq (.reg [d 12 (.mv (i 0))])
(.block 0
(.loop [0,11,12]
(.seq (.seq (.reg [m 84 12,
m 85 11,
d 86 (.len .i (t 85)),
b 87 .lss (t 84) (t 86)])
(.cond (t 87)
.skip
(.brk 0)))
(.seq (.block 1
(.seq (.reg [d 13 (.mv (i 0))])
(.block 2
(.loop [0,11,12,13]
(.seq (.seq (.reg [m 90 13,
m 91 11,
m 92 12,
d 93 (.idxS (t 91) (t 92) 1),
l 94 93,
d 95 (.len .i (t 94)),
b 96 .lss (t 90) (t 95)])
(.cond (t 96)
.skip
(.brk 2)))
(.seq (.block 3
(.draw [(m 99 0,0,[]),
(d 100 (.nilc (t 99)),1,[]),
(q 101 100 5,2,[]),
(l 102 101,3,[]),
(m 103 12,4,[]),
(d 104 (.idxS (t 102) (t 103) 1),5,[]),
(l 105 104,6,[]),
(m 106 13,7,[]),
(m 107 0,8,[]),
(d 108 (.nilc (t 107)),9,[]),
(q 109 108 5,10,[]),
(l 110 109,11,[]),
(m 111 12,12,[]),
(d 112 (.idxS (t 110) (t 111) 1),13,[]),
(l 113 112,14,[]),
(m 114 13,15,[]),
(d 115 (.idxS (t 113) (t 114) 1),16,[]),
(l 116 115,17,[]),
(m 117 11,18,[]),
(m 118 12,19,[]),
(d 119 (.idxS (t 117) (t 118) 1),20,[]),
(l 120 119,21,[]),
(m 121 13,22,[]),
(d 122 (.idxS (t 120) (t 121) 1),23,[]),
(l 123 122,24,[]),
(d 124 (.max [t 116,t 123]),25,[]),
(d 125 (.idxS (t 105) (t 106) 1),26,[]),
(⟨none,none,.store (t 125) (t 124) 1⟩,27,[])]))
(.reg [m 97 13,
b 98 .add (t 97) (i 1),
m 13 98])))))))
(.reg [m 88 12,
b 89 .add (t 88) (i 1),
m 12 89]))))))
(.seq (.reg [d 6 (.mv (i 0))])
.ret)))))))))))))⟩
theorem tr136:trF Tryz.prog (y [] [] [[0,11,12],[0,11,12,13]] [(3,([0,0,2,6,14,31,0,64,192,448,1023,2047,4095],[(0,[]),(1,[]),(2,[]),(3,[]),(4,[]),(6,[]),(7,[]),(8,[]),(9,[]),(5,[8]),(10,[]),(11,[]),(12,[])])),(8,([0,1,3,7,0,16,48,112,15,511],[(0,[]),(1,[]),(2,[]),(3,[]),(4,[]),(5,[]),(6,[]),(7,[]),(8,[]),(9,[])])),(21,([0,1,3,7,0,31,63,0,0,256,768,1792,0,7936,16128,0,65280,130816,0,0,786432,1835008,0,8126464,16515072,33554176,67108863,134217727],[(0,[]),(1,[]),(2,[]),(3,[]),(4,[]),(5,[]),(6,[]),(7,[]),(8,[]),(9,[]),(10,[]),(11,[]),(12,[]),(13,[]),(14,[]),(15,[]),(16,[]),(17,[]),(18,[]),(19,[]),(20,[]),(21,[]),(22,[]),(23,[]),(24,[]),(25,[]),(26,[]),(27,[])]))] false) Tryz.f136=some ir136:=by kernel_rfl
def ir137:IFn:=⟨85,[.tmp 8 false],
.seq (.reg [d 5 (.box (t 1) false),
d 6 (.box (t 2) false),
d 7 (.box (t 3) false),
d 8 (.mv (i 0))])
(.seq (.seq (.reg [q 12 6 0,
l 13 12,
b 14 .neq (t 13) (i 1),
m 15 14,
⟨some 16,some (15,false),.fad (t 7) 0⟩,
⟨some 17,some (15,false),.load (t 16) 1 false⟩,
⟨some 18,some (15,false),.bin .neq .plain (t 17) (i 1)⟩,
d 19 (.pick (t 15) (.cst (.bool true)) (t 18)),
m 20 19,
⟨some 21,some (20,false),.fad (t 6) 2⟩,
⟨some 22,some (20,false),.load (t 21) 1 false⟩,
⟨some 23,some (20,false),.un .not (t 22)⟩,
d 24 (.pick (t 20) (.cst (.bool true)) (t 23)),
m 25 24,
⟨some 26,some (25,false),.fad (t 7) 2⟩,
⟨some 27,some (25,false),.load (t 26) 1 false⟩,
⟨some 28,some (25,false),.un .not (t 27)⟩,
d 29 (.pick (t 25) (.cst (.bool true)) (t 28))])
(.cond (t 29)
(.seq (.reg [d 8 (.mv (i 1))])
.ret)
.skip))
(.seq (.seq (.reg [m 30 0,
q 31 5 1,
l 32 31,
k 33 131 [t 30,t 32]])
(.cond (t 33)
(.seq (.reg [d 8 (.mv (i 4))])
.ret)
.skip))
(.seq (.draw [(m 34 0,0,[]),
(m 35 0,1,[]),
(d 36 (.nilc (t 35)),2,[]),
(q 37 36 3,3,[]),
(l 38 37,4,[]),
(q 39 5 1,5,[]),
(l 40 39,6,[]),
(k 41 132 [t 38,t 40],7,[]),
(d 42 (.nilc (t 34)),8,[]),
(q 43 42 3,9,[]),
(⟨none,none,.store (t 43) (t 41) 1⟩,10,[])])
(.seq (.seq (.reg [q 44 6 3,
l 45 44,
m 9 45])
(.block 0
(.loop [0,5,7,9]
(.seq (.seq (.reg [m 46 9,
q 47 7 3,
l 48 47,
b 49 .leq (t 46) (t 48)])
(.cond (t 49)
.skip
(.brk 0)))
(.seq (.block 1
(.seq (.reg [m 52 0,
k 53 129 [t 52],
m 10 53])
(.seq (.seq (.reg [m 54 10,
b 55 .neq (t 54) (i 0)])
(.cond (t 55)
(.seq (.reg [m 56 10,
m 8 56])
.ret)
.skip))
(.seq (.reg [m 57 0,
d 58 (.nilc (t 57)),
q 59 58 4,
l 60 59,
m 11 60])
(.seq (.draw [(m 61 0,0,[]),
(d 62 (.bsl 0 5 true [s0,i0,i0,(.bool false),w0] []),1,[]),
(m 63 11,2,[]),
(q 65 5 1,4,[]),
(l 66 65,5,[]),
(m 67 9,6,[]),
(d 64 (.app (t 62) (t 63) 5 48 true false),3,[4]),
(k 68 164 [t 67],7,[4]),
(d 69 (.bld [s0,i0,i0,(.bool false),w0] [(0,1,(t 66)),(1,4,(t 68))]),8,[]),
(d 70 (.bsl 1 5 true [s0,i0,i0,(.bool false),w0] [(0,5,(t 69))]),9,[]),
(d 71 (.app (t 64) (t 70) 5 48 true false),10,[]),
(d 72 (.nilc (t 61)),11,[]),
(q 73 72 4,12,[]),
(⟨none,none,.store (t 73) (t 71) 1⟩,13,[])])
(.seq (.reg [m 74 0,
q 75 5 3,
l 76 75,
k 77 86 [t 74,t 76],
m 10 77])
(.seq (.seq (.reg [m 78 10,
b 79 .neq (t 78) (i 0)])
(.cond (t 79)
(.seq (.reg [m 80 10,
m 8 80])
.ret)
.skip))
(.reg [m 81 0,
m 82 11,
d 83 (.nilc (t 81)),
q 84 83 4,
⟨none,none,.store (t 84) (t 82) 1⟩]))))))))
(.reg [m 50 9,
b 51 .add (t 50) (w 1),
m 9 51]))))))
(.seq (.reg [d 8 (.mv (i 0))])
.ret)))))⟩
theorem tr137:trF Tryz.prog (y [] [] [[0,5,7,9]] [(5,([0,0,2,6,14,0,32,126,255,511,1023],[(0,[]),(1,[]),(2,[]),(3,[]),(4,[]),(5,[]),(6,[]),(7,[]),(8,[]),(9,[]),(10,[])])),(13,([0,0,0,6,0,16,0,78,254,510,1022,2047,4095,8191],[(0,[]),(1,[]),(2,[]),(4,[]),(5,[]),(6,[]),(3,[4]),(7,[4]),(8,[]),(9,[]),(10,[]),(11,[]),(12,[]),(13,[])]))] false) Tryz.f137=some ir137:=by kernel_rfl
def ir146:IFn:=⟨23,[.tmp 4 false],
.seq (.reg [d 2 (.box (t 0) false),
d 4 (.mv (i 0))])
(.seq (.seq (.reg [q 5 2 0,
l 6 5,
b 7 .neq (t 6) (i 1),
m 8 7,
⟨some 9,some (8,false),.fad (t 2) 2⟩,
⟨some 10,some (8,false),.load (t 9) 1 false⟩,
⟨some 11,some (8,false),.un .not (t 10)⟩,
d 12 (.pick (t 8) (.cst (.bool true)) (t 11))])
(.cond (t 12)
(.reg [k 13 96 [i 1]])
.skip))
(.seq (.seq (.reg [q 14 2 3,
l 15 14,
m 16 1,
d 17 (.cvI .u64 (t 16)),
b 18 .geq (t 15) (t 17)])
(.cond (t 18)
(.reg [k 19 96 [i 13]])
.skip))
(.seq (.reg [q 20 2 3,
l 21 20,
d 22 (.cvI .i64 (t 21)),
m 4 22])
.ret)))⟩
theorem tr146:trF Tryz.prog y0 Tryz.f146=some ir146:=by kernel_rfl
def ir147:IFn:=⟨9,[],
.seq (.reg [d 2 (.box (t 0) false)])
(.seq (.reg [q 4 2 0,
l 5 4,
m 6 1,
b 7 .neq (t 5) (t 6)])
(.cond (t 7)
(.reg [k 8 96 [i 5]])
.skip))⟩
theorem tr147:trF Tryz.prog y0 Tryz.f147=some ir147:=by kernel_rfl
def ir148:IFn:=⟨145,[],
.seq (.reg [m 20 0,
d 21 (.nilc (t 20)),
q 22 21 7,
l 23 22,
b 24 .add (t 23) (i 1),
d 25 (.nilc (t 20)),
q 26 25 7,
⟨none,none,.store (t 26) (t 24) 1⟩])
(.seq (.draw [(m 27 0,0,[]),
(d 28 (.nilc (t 27)),1,[]),
(q 29 28 2,2,[]),
(l 30 29,3,[]),
(m 32 0,5,[]),
(d 33 (.nilc (t 32)),6,[]),
(q 34 33 3,7,[]),
(l 35 34,8,[]),
(k 31 176 [t 30],4,[7]),
(k 36 177 [t 35],9,[]),
(m 6 31,10,[]),
(m 7 36,11,[])])
(.seq (.reg [m 37 0,
m 38 1,
k 39 97 [t 37,t 38]])
(.seq (.reg [m 40 6,
m 8 40])
(.seq (.draw [(m 41 0,0,[]),
(d 42 (.nilc (t 41)),1,[]),
(q 43 42 2,2,[]),
(l 44 43,3,[]),
(m 45 0,4,[]),
(d 46 (.nilc (t 45)),5,[]),
(q 47 46 3,6,[]),
(l 48 47,7,[]),
(m 9 44,8,[]),
(m 10 48,9,[])])
(.seq (.reg [m 49 0,
m 50 0,
m 51 6,
k 52 176 [t 51],
m 53 7,
d 54 (.nilc (t 49)),
q 55 54 2,
⟨none,none,.store (t 55) (t 52) 1⟩,
d 56 (.nilc (t 50)),
q 57 56 3,
⟨none,none,.store (t 57) (t 53) 1⟩])
(.seq (.reg [m 58 0,
m 59 2,
k 60 97 [t 58,t 59]])
(.seq (.reg [m 61 0,
d 62 (.nilc (t 61)),
q 63 62 7,
l 64 63,
b 65 .sub (t 64) (i 1),
d 66 (.nilc (t 61)),
q 67 66 7,
⟨none,none,.store (t 67) (t 65) 1⟩])
(.seq (.reg [d 68 (.mkM),
m 11 68])
(.seq (.seq (.reg [m 69 8,
d 70 (.rng (t 69))])
(.block 0
(.loop [0,9,10,11,70]
(.seq (.reg [d 71 (.nxt (t 70)),
d 72 (.ext (t 71) 0)])
(.seq (.cond (t 72)
.skip
(.brk 0))
(.block 1
(.seq (.reg [d 73 (.ent (t 70)),
d 74 (.ext (t 73) 0),
m 12 74])
(.seq (.reg [m 76 9,
m 77 12,
d 78 (.lkp .s (t 76) (t 77) (.agg [i0,i0,(.bool false),w0]) true),
m 75 78,
d 79 (.ext (t 75) 0),
d 80 (.ext (t 75) 1),
d 13 (.allocz [i0,i0,(.bool false),w0] false),
⟨none,none,.store (t 13) (t 79) 4⟩,
m 14 80])
(.seq (.reg [m 82 0,
d 83 (.nilc (t 82)),
q 84 83 2,
l 85 84,
m 86 12,
d 87 (.lkp .s (t 85) (t 86) (.agg [i0,i0,(.bool false),w0]) true),
m 81 87,
d 88 (.ext (t 81) 0),
d 89 (.ext (t 81) 1),
d 15 (.allocz [i0,i0,(.bool false),w0] false),
⟨none,none,.store (t 15) (t 88) 4⟩,
m 16 89])
(.seq (.reg [m 90 14,
m 91 90,
⟨some 92,some (91,true),.mv (t 16)⟩,
d 93 (.pick (t 91) (t 92) (.cst (.bool false))),
m 94 93,
⟨some 95,some (94,true),.fad (t 13) 0⟩,
⟨some 96,some (94,true),.load (t 95) 1 false⟩,
⟨some 97,some (94,true),.fad (t 15) 0⟩,
⟨some 98,some (94,true),.load (t 97) 1 false⟩,
⟨some 99,some (94,true),.bin .eql .plain (t 96) (t 98)⟩,
d 100 (.pick (t 94) (t 99) (.cst (.bool false)))])
(.cond (t 100)
(.reg [m 101 11,
m 102 12,
q 103 13 0,
l 104 103,
q 105 13 1,
l 106 105,
q 107 15 1,
l 108 107,
d 109 (.max [t 106,t 108]),
d 110 (.bld [i0,i0,(.bool false),w0] [(0,1,(t 104)),(1,1,(t 109))]),
⟨none,none,.mup .s (t 101) (t 102) (t 110)⟩])
.skip)))))))))))
(.seq (.reg [m 111 0,
m 112 11,
d 113 (.nilc (t 111)),
q 114 113 2,
⟨none,none,.store (t 114) (t 112) 1⟩])
(.seq (.reg [m 115 0,
d 116 (.nilc (t 115)),
q 117 116 3,
l 118 117,
d 119 (.rng (t 118))])
(.block 2
(.loop [10,119]
(.seq (.reg [d 120 (.nxt (t 119)),
d 121 (.ext (t 120) 0)])
(.seq (.cond (t 121)
.skip
(.brk 2))
(.block 3
(.seq (.reg [d 122 (.ent (t 119)),
d 123 (.ext (t 122) 0),
d 124 (.ext (t 122) 1),
m 17 123,
m 18 124])
(.seq (.reg [m 125 18,
d 126 (.len .i (t 125)),
d 127 (.mv (i 0))])
(.block 4
(.loop [10,17,18,119,126,127]
(.seq (.reg [b 128 .lss (t 127) (t 126)])
(.seq (.cond (t 128)
.skip
(.brk 4))
(.seq (.block 5
(.seq (.reg [m 129 127,
m 19 129])
(.draw [(m 130 18,0,[]),
(m 131 19,1,[]),
(m 132 18,2,[]),
(m 133 19,3,[]),
(d 134 (.idxS (t 132) (t 133) 1),4,[]),
(l 135 134,5,[]),
(m 136 10,6,[]),
(m 137 17,7,[]),
(d 138 (.lkp .s (t 136) (t 137) (.vec [] .full) false),8,[]),
(m 139 19,9,[]),
(d 140 (.idxS (t 138) (t 139) 1),10,[]),
(l 141 140,11,[]),
(d 142 (.max [t 135,t 141]),12,[]),
(d 143 (.idxS (t 130) (t 131) 1),13,[]),
(⟨none,none,.store (t 143) (t 142) 1⟩,14,[])])))
(.reg [b 144 .add (t 127) (i 1),
m 127 144]))))))))))))))))))))))))⟩
theorem tr148:trF Tryz.prog (y [] [] [[0,9,10,11,70],[10,119],[10,17,18,119,126,127]] [(1,([0,1,3,7,15,0,32,96,224,511,1023,2047],[(0,[]),(1,[]),(2,[]),(3,[]),(5,[]),(6,[]),(7,[]),(8,[]),(4,[7]),(9,[]),(10,[]),(11,[])])),(4,([0,1,3,7,0,16,48,112,15,511],[(0,[]),(1,[]),(2,[]),(3,[]),(4,[]),(5,[]),(6,[]),(7,[]),(8,[]),(9,[])])),(23,([0,0,0,0,12,28,0,0,192,0,960,1984,4092,8191,16383],[(0,[]),(1,[]),(2,[]),(3,[]),(4,[]),(5,[]),(6,[]),(7,[]),(8,[]),(9,[]),(10,[]),(11,[]),(12,[]),(13,[]),(14,[])]))] false) Tryz.f148=some ir148:=by kernel_rfl
def ir149:IFn:=⟨67,[],
.seq (.reg [d 5 (.box (t 1) false),
d 6 (.box (t 2) false),
d 7 (.box (t 3) false)])
(.seq (.seq (.reg [q 9 6 0,
l 10 9,
b 11 .neq (t 10) (i 1),
m 12 11,
⟨some 13,some (12,false),.fad (t 7) 0⟩,
⟨some 14,some (12,false),.load (t 13) 1 false⟩,
⟨some 15,some (12,false),.bin .neq .plain (t 14) (i 1)⟩,
d 16 (.pick (t 12) (.cst (.bool true)) (t 15)),
m 17 16,
⟨some 18,some (17,false),.fad (t 6) 2⟩,
⟨some 19,some (17,false),.load (t 18) 1 false⟩,
⟨some 20,some (17,false),.un .not (t 19)⟩,
d 21 (.pick (t 17) (.cst (.bool true)) (t 20)),
m 22 21,
⟨some 23,some (22,false),.fad (t 7) 2⟩,
⟨some 24,some (22,false),.load (t 23) 1 false⟩,
⟨some 25,some (22,false),.un .not (t 24)⟩,
d 26 (.pick (t 22) (.cst (.bool true)) (t 25))])
(.cond (t 26)
(.reg [k 27 96 [i 1]])
.skip))
(.seq (.seq (.reg [m 28 0,
q 29 5 1,
l 30 29,
k 31 95 [t 28,t 30]])
(.cond (t 31)
(.reg [k 32 96 [i 4]])
.skip))
(.seq (.draw [(m 33 0,0,[]),
(d 34 (.nilc (t 33)),1,[]),
(q 35 34 2,2,[]),
(l 36 35,3,[]),
(q 37 5 1,4,[]),
(l 38 37,5,[]),
(⟨none,none,.mdel .s (t 36) (t 38)⟩,6,[])])
(.seq (.seq (.reg [q 39 6 3,
l 40 39,
m 8 40])
(.block 0
(.loop [0,5,7,8]
(.seq (.seq (.reg [m 41 8,
q 42 7 3,
l 43 42,
b 44 .leq (t 41) (t 43)])
(.cond (t 44)
.skip
(.brk 0)))
(.seq (.block 1
(.seq (.reg [m 47 0,
k 48 119 [t 47]])
(.seq (.draw [(m 49 0,0,[]),
(d 50 (.nilc (t 49)),1,[]),
(q 51 50 4,2,[]),
(l 52 51,3,[]),
(q 53 5 1,4,[]),
(l 54 53,5,[]),
(m 55 8,6,[]),
(k 56 178 [t 55],7,[3,5]),
(⟨none,none,.mup .s (t 52) (t 54) (t 56)⟩,8,[])])
(.reg [m 57 0,
q 58 5 3,
l 59 58,
k 60 97 [t 57,t 59]]))))
(.reg [m 45 8,
b 46 .add (t 45) (w 1),
m 8 46]))))))
(.draw [(m 61 0,0,[]),
(d 62 (.nilc (t 61)),1,[]),
(q 63 62 4,2,[]),
(l 64 63,3,[]),
(q 65 5 1,4,[]),
(l 66 65,5,[]),
(⟨none,none,.mdel .s (t 64) (t 66)⟩,6,[])])))))⟩
theorem tr149:trF Tryz.prog (y [] [] [[0,5,7,8]] [(5,([0,1,3,7,0,16,63],[(0,[]),(1,[]),(2,[]),(3,[]),(4,[]),(5,[]),(6,[])])),(10,([0,1,3,7,0,16,0,64,255],[(0,[]),(1,[]),(2,[]),(3,[]),(4,[]),(5,[]),(6,[]),(7,[3,5]),(8,[])])),(12,([0,1,3,7,0,16,63],[(0,[]),(1,[]),(2,[]),(3,[]),(4,[]),(5,[]),(6,[])]))] false) Tryz.f149=some ir149:=by kernel_rfl
def ir150:IFn:=⟨86,[.cell 4 4 true false],
.seq (.reg [d 3 (.box (t 1) false),
d 4 (.allocz [i0,i0,(.bool false),w0] false)])
(.seq (.reg [m 6 0,
q 7 3 4,
l 8 7,
k 9 121 [t 6,t 8],
m 5 9])
(.seq (.seq (.reg [q 10 3 0,
l 11 10])
(.block 0
(.seq (.reg [b 13 .eql (t 11) (i 1),
m 12 13])
(.cond (t 12)
(.seq (.reg [m 14 0,
q 15 3 2,
l 16 15,
k 17 178 [t 16],
k 18 179 [t 14,t 17],
⟨none,none,.store (t 4) (t 18) 4⟩])
.ret)
(.seq (.reg [b 20 .eql (t 11) (i 2),
m 19 20])
(.cond (t 19)
(.seq (.reg [m 21 0,
m 22 0,
q 23 3 3,
l 24 23,
k 25 180 [t 22,t 24],
k 26 179 [t 21,t 25],
⟨none,none,.store (t 4) (t 26) 4⟩])
.ret)
(.seq (.reg [b 28 .eql (t 11) (i 3),
m 27 28])
(.cond (t 27)
(.seq (.draw [(m 29 0,0,[]),
(m 30 0,1,[]),
(q 31 3 3,2,[]),
(l 32 31,3,[]),
(m 33 5,4,[]),
(d 34 (.idxS (t 33) (i 0) 4),5,[]),
(d 35 (.load (t 34) 4 true),6,[]),
(k 36 181 [t 30,t 32,t 35],7,[]),
(k 37 179 [t 29,t 36],8,[]),
(⟨none,none,.store (t 4) (t 37) 4⟩,9,[])])
.ret)
(.seq (.reg [b 39 .eql (t 11) (i 4),
m 38 39])
(.cond (t 38)
(.seq (.draw [(m 40 0,0,[]),
(q 41 3 1,1,[]),
(l 42 41,2,[]),
(m 43 5,3,[]),
(d 44 (.idxS (t 43) (i 0) 4),4,[]),
(d 45 (.load (t 44) 4 true),5,[]),
(m 46 5,6,[]),
(d 47 (.idxS (t 46) (i 1) 4),7,[]),
(d 48 (.load (t 47) 4 true),8,[]),
(k 49 182 [t 42,t 45,t 48],9,[]),
(k 50 179 [t 40,t 49],10,[]),
(⟨none,none,.store (t 4) (t 50) 4⟩,11,[])])
.ret)
(.seq (.reg [b 52 .eql (t 11) (i 5),
m 51 52])
(.cond (t 51)
(.seq (.reg [m 53 5,
d 54 (.idxS (t 53) (i 0) 4),
d 55 (.load (t 54) 4 true),
k 56 147 [t 55,i 2]])
(.seq (.reg [d 57 (.load (.glob 1 [(.int .i64 2),i0,(.bool false),w0]) 4 true),
⟨none,none,.store (t 4) (t 57) 4⟩])
.ret))
.skip))))))))))))
(.seq (.reg [m 58 5,
d 59 (.idxS (t 58) (i 0) 4),
d 60 (.load (t 59) 4 true),
k 61 147 [t 60,i 2]])
(.seq (.draw [(m 62 5,0,[]),
(d 63 (.idxS (t 62) (i 2) 4),1,[]),
(d 64 (.load (t 63) 4 true),2,[]),
(m 65 5,3,[]),
(d 66 (.idxS (t 65) (i 1) 4),4,[]),
(q 67 66 0,5,[]),
(l 68 67,6,[]),
(k 69 147 [t 64,t 68],7,[])])
(.seq (.draw [(m 70 0,0,[]),
(m 71 5,1,[]),
(d 72 (.idxS (t 71) (i 1) 4),2,[]),
(q 73 72 0,3,[]),
(l 74 73,4,[]),
(m 75 5,5,[]),
(d 76 (.idxS (t 75) (i 1) 4),6,[]),
(q 77 76 1,7,[]),
(l 78 77,8,[]),
(m 79 5,9,[]),
(d 80 (.idxS (t 79) (i 2) 4),10,[]),
(q 81 80 1,11,[]),
(l 82 81,12,[]),
(d 83 (.max [t 78,t 82]),13,[]),
(d 84 (.bld [i0,i0,(.bool false),w0] [(0,1,(t 74)),(1,1,(t 83))]),14,[]),
(k 85 179 [t 70,t 84],15,[]),
(⟨none,none,.store (t 4) (t 85) 4⟩,16,[])])
.ret)))))⟩
theorem tr150:trF Tryz.prog (y [] [] [] [(8,([0,0,0,4,0,16,48,126,255,511],[(0,[]),(1,[]),(2,[]),(3,[]),(4,[]),(5,[]),(6,[]),(7,[]),(8,[]),(9,[])])),(10,([0,0,2,0,8,24,0,64,192,510,1023,2047],[(0,[]),(1,[]),(2,[]),(3,[]),(4,[]),(5,[]),(6,[]),(7,[]),(8,[]),(9,[]),(10,[]),(11,[])])),(15,([0,1,3,0,8,24,56,127],[(0,[]),(1,[]),(2,[]),(3,[]),(4,[]),(5,[]),(6,[]),(7,[])])),(16,([0,0,2,6,14,0,32,96,224,0,512,1536,3584,8160,16382,32767,65535],[(0,[]),(1,[]),(2,[]),(3,[]),(4,[]),(5,[]),(6,[]),(7,[]),(8,[]),(9,[]),(10,[]),(11,[]),(12,[]),(13,[]),(14,[]),(15,[]),(16,[])]))] false) Tryz.f150=some ir150:=by kernel_rfl
def ir151:IFn:=⟨58,[.cell 8 4 true false],
.seq (.reg [d 6 (.box (t 2) false),
d 7 (.box (t 3) false),
d 8 (.allocz [(.bool false),(.vec [] .full),(.bool false),w0] false)])
(.seq (.seq (.reg [m 13 1,
d 14 (.load (t 6) 4 true),
d 15 (.load (t 7) 4 true),
k 16 183 [t 13,t 14,t 15],
m 12 16,
d 17 (.ext (t 12) 0),
d 18 (.ext (t 12) 1),
d 19 (.ext (t 12) 2),
m 9 17,
m 10 18,
m 11 19])
(.seq (.reg [m 20 11])
(.cond (t 20)
(.seq (.reg [m 21 0,
m 22 9,
m 23 10,
k 24 66 [t 21,t 22,t 23],
⟨none,none,.store (t 8) (t 24) 4⟩])
.ret)
.skip)))
(.seq (.reg [m 25 0,
m 26 0,
m 27 1,
q 28 6 1,
l 29 28,
d 30 (.len .i (t 29)),
q 31 7 1,
l 32 31,
d 33 (.len .i (t 32)),
d 34 (.bld [i0,i0,i0] [(0,1,(t 27)),(1,1,(t 30)),(2,1,(t 33))]),
k 35 152 [t 26,t 34],
k 36 63 [t 25,t 35]])
(.seq (.draw [(m 37 1,0,[]),
(b 38 .neq (t 37) (i 1),1,[]),
(m 39 38,2,[]),
(⟨some 40,some (39,true),.mv (t 1)⟩,3,[]),
(⟨some 41,some (39,true),.bin .neq .plain (t 40) (i 2)⟩,4,[]),
(d 42 (.pick (t 39) (t 41) (.cst (.bool false))),5,[]),
(m 43 42,6,[]),
(⟨some 44,some (43,true),.mv (t 1)⟩,7,[]),
(⟨some 45,some (43,true),.bin .neq .plain (t 44) (i 3)⟩,8,[]),
(d 46 (.pick (t 43) (t 45) (.cst (.bool false))),9,[]),
(m 47 0,10,[]),
(d 48 (.nilc (t 47)),11,[]),
(q 49 48 1,12,[]),
(l 50 49,13,[]),
(m 51 1,14,[]),
(q 52 6 1,15,[]),
(l 53 52,16,[]),
(q 54 7 1,17,[]),
(l 55 54,18,[]),
(k 56 184 [t 50,t 51,t 53,t 55],19,[]),
(d 57 (.bld [(.bool false),v0,(.bool false),w0] [(0,1,(t 46)),(1,1,(t 56))]),20,[]),
(⟨none,none,.store (t 8) (t 57) 4⟩,21,[])])
.ret)))⟩
theorem tr151:trF Tryz.prog (y [] [] [] [(5,([0,1,3,7,15,31,63,127,255,511,0,1024,3072,7168,0,0,32768,0,131072,523391,1048575,2097151],[(0,[]),(1,[]),(2,[]),(3,[]),(4,[]),(5,[]),(6,[]),(7,[]),(8,[]),(9,[]),(10,[]),(11,[]),(12,[]),(13,[]),(14,[]),(15,[]),(16,[]),(17,[]),(18,[]),(19,[]),(20,[]),(21,[])]))] false) Tryz.f151=some ir151:=by kernel_rfl
def ir152:IFn:=⟨85,[.tmp 4 false],
.seq (.reg [d 3 (.box (t 1) false),
d 4 (.mv (i 0))])
(.seq (.seq (.draw [(m 12 0,0,[]),
(d 13 (.nilc (t 12)),1,[]),
(q 14 13 9,2,[]),
(l 15 14,3,[]),
(d 16 (.load (t 3) 3 true),4,[]),
(d 17 (.lkp (.r 3) (t 15) (t 16) i0 true),5,[]),
(m 11 17,6,[]),
(d 18 (.ext (t 11) 0),7,[]),
(d 19 (.ext (t 11) 1),8,[]),
(m 5 18,9,[]),
(m 6 19,10,[])])
(.seq (.reg [m 20 6])
(.cond (t 20)
(.seq (.reg [m 21 5,
m 4 21])
.ret)
.skip)))
(.seq (.reg [m 22 0,
d 23 (.nilc (t 22)),
q 24 23 0,
l 25 24,
k 26 61 [t 25],
m 7 26])
(.seq (.draw [(m 27 7,0,[]),
(q 28 3 1,1,[]),
(l 29 28,2,[]),
(m 31 7,4,[]),
(q 32 3 2,5,[]),
(l 33 32,6,[]),
(k 30 185 [t 27,t 29],3,[5]),
(k 34 185 [t 31,t 33],7,[]),
(m 8 30,8,[]),
(m 9 34,9,[])])
(.seq (.seq (.reg [q 35 3 0,
l 36 35])
(.block 0
(.seq (.reg [b 44 .eql (t 36) (i 100),
m 43 44])
(.cond (t 43)
(.reg [m 45 7,
m 46 8,
k 47 158 [t 45,t 46]])
(.seq (.reg [b 49 .eql (t 36) (i 101),
m 48 49])
(.cond (t 48)
(.draw [(m 50 7,0,[]),
(m 51 8,1,[]),
(d 52 (.idxS (t 51) (i 0) 1),2,[]),
(l 53 52,3,[]),
(m 54 9,4,[]),
(d 55 (.idxS (t 54) (i 0) 1),5,[]),
(l 56 55,6,[]),
(m 57 9,7,[]),
(d 58 (.idxS (t 57) (i 1) 1),8,[]),
(l 59 58,9,[]),
(k 60 186 [t 50,t 53,t 56,t 59],10,[])])
(.seq (.reg [b 62 .eql (t 36) (i 102),
m 61 62])
(.cond (t 61)
(.reg [m 63 7,
m 64 8,
d 65 (.idxS (t 64) (i 0) 1),
l 66 65,
k 67 153 [t 63,t 66]])
(.reg [m 37 7,
q 38 3 0,
l 39 38,
m 40 8,
m 41 9,
k 42 184 [t 37,t 39,t 40,t 41]])))))))))
(.seq (.draw [(m 68 7,0,[]),
(q 72 3 1,4,[]),
(l 73 72,5,[]),
(q 75 3 2,7,[]),
(l 76 75,8,[]),
(k 69 68 [t 68],1,[2,4]),
(d 70 (.fld (t 69) 1 1 false),2,[]),
(d 71 (.len .i (t 70)),3,[]),
(b 74 .sub (t 71) (t 73),6,[]),
(b 77 .sub (t 74) (t 76),9,[]),
(m 10 77,10,[])])
(.seq (.draw [(m 78 0,0,[]),
(d 79 (.nilc (t 78)),1,[]),
(q 80 79 9,2,[]),
(l 81 80,3,[]),
(d 82 (.load (t 3) 3 true),4,[]),
(m 83 10,5,[]),
(⟨none,none,.mup (.r 3) (t 81) (t 82) (t 83)⟩,6,[])])
(.seq (.reg [m 84 10,
m 4 84])
.ret)))))))⟩
theorem tr152:trF Tryz.prog (y [] [] [] [(1,([0,1,3,7,0,31,63,127,127,255,1023],[(0,[]),(1,[]),(2,[]),(3,[]),(4,[]),(5,[]),(6,[]),(7,[]),(8,[]),(9,[]),(10,[])])),(5,([0,0,2,7,0,0,32,127,255,511],[(0,[]),(1,[]),(2,[]),(4,[]),(5,[]),(6,[]),(3,[5]),(7,[]),(8,[]),(9,[])])),(11,([0,0,2,6,0,16,48,0,128,384,1023],[(0,[]),(1,[]),(2,[]),(3,[]),(4,[]),(5,[]),(6,[]),(7,[]),(8,[]),(9,[]),(10,[])])),(14,([0,1,3,7,0,16,63,0,128,511,1023],[(0,[]),(4,[]),(5,[]),(7,[]),(8,[]),(1,[2,4]),(2,[]),(3,[]),(6,[]),(9,[]),(10,[])])),(15,([0,1,3,7,0,0,63],[(0,[]),(1,[]),(2,[]),(3,[]),(4,[]),(5,[]),(6,[])]))] false) Tryz.f152=some ir152:=by kernel_rfl
def ir153:IFn:=⟨10,[.tmp 4 false],
.seq (.reg [d 4 (.mv (i 0))])
(.seq (.reg [m 5 0,
m 6 0,
k 7 64 [t 6,w 1],
m 8 1,
k 9 187 [t 5,t 7,t 8],
m 4 9])
.ret)⟩
theorem tr153:trF Tryz.prog y0 Tryz.f153=some ir153:=by kernel_rfl
def ir154:IFn:=⟨82,[.cell 8 4 true false],
.seq (.reg [d 6 (.box (t 2) false),
d 7 (.box (t 3) false),
d 8 (.allocz [(.bool false),(.vec [] .full),(.bool false),w0] false)])
(.seq (.reg [q 14 6 1,
l 15 14,
d 16 (.len .i (t 15)),
q 17 7 1,
l 18 17,
d 19 (.len .i (t 18)),
d 20 (.max [t 16,t 19]),
m 9 20])
(.seq (.draw [(m 21 0,0,[]),
(q 22 6 1,1,[]),
(l 23 22,2,[]),
(m 24 9,3,[]),
(m 26 0,5,[]),
(q 27 7 1,6,[]),
(l 28 27,7,[]),
(m 29 9,8,[]),
(k 25 188 [t 21,t 23,t 24],4,[6]),
(k 30 188 [t 26,t 28,t 29],9,[]),
(m 10 25,10,[]),
(m 11 30,11,[])])
(.seq (.reg [q 31 6 0,
l 32 31,
d 33 (.bld [(.bool false),v0,(.bool false),w0] [(0,1,(t 32))]),
d 12 (.allocz [(.bool false),(.vec [] .full),(.bool false),w0] false),
⟨none,none,.store (t 12) (t 33) 4⟩])
(.seq (.seq (.reg [m 34 9,
d 35 (.mv (i 0))])
(.block 0
(.loop [0,1,8,10,11,12,34,35]
(.seq (.reg [b 36 .lss (t 35) (t 34)])
(.seq (.cond (t 36)
.skip
(.brk 0))
(.seq (.block 1
(.seq (.reg [m 37 35,
m 13 37])
(.seq (.seq (.draw [(m 38 10,0,[]),
(m 39 13,1,[]),
(d 40 (.idxS (t 38) (t 39) 1),2,[]),
(l 41 40,3,[]),
(m 42 11,4,[]),
(m 43 13,5,[]),
(d 44 (.idxS (t 42) (t 43) 1),6,[]),
(l 45 44,7,[]),
(b 46 .eql (t 41) (t 45),8,[])])
(.cond (t 46)
(.seq (.draw [(q 47 12 1,0,[]),
(l 48 47,1,[]),
(m 49 10,2,[]),
(m 50 13,3,[]),
(d 51 (.idxS (t 49) (t 50) 1),4,[]),
(l 52 51,5,[]),
(d 53 (.bsl 1 1 false [i0] [(0,1,(t 52))]),6,[]),
(d 54 (.app (t 48) (t 53) 1 8 false false),7,[]),
(q 55 12 1,8,[]),
(⟨none,none,.store (t 55) (t 54) 1⟩,9,[])])
(.brk 1))
.skip))
(.seq (.reg [m 56 0,
m 57 0,
d 58 (.bld [i0,i0,i0] [(0,1,(i 101)),(1,1,(i 1)),(2,1,(i 2))]),
k 59 152 [t 57,t 58],
k 60 63 [t 56,t 59]])
(.draw [(q 61 12 1,0,[]),
(l 62 61,1,[]),
(m 63 0,2,[]),
(d 64 (.nilc (t 63)),3,[]),
(q 65 64 1,4,[]),
(l 66 65,5,[]),
(m 67 1,6,[]),
(m 68 10,7,[]),
(m 69 13,8,[]),
(d 70 (.idxS (t 68) (t 69) 1),9,[]),
(l 71 70,10,[]),
(m 72 11,11,[]),
(m 73 13,12,[]),
(d 74 (.idxS (t 72) (t 73) 1),13,[]),
(l 75 74,14,[]),
(k 76 186 [t 66,t 67,t 71,t 75],15,[1]),
(d 77 (.bsl 1 1 false [i0] [(0,1,(t 76))]),16,[]),
(d 78 (.app (t 62) (t 77) 1 8 false false),17,[]),
(q 79 12 1,18,[]),
(⟨none,none,.store (t 79) (t 78) 1⟩,19,[])])))))
(.reg [b 80 .add (t 35) (i 1),
m 35 80])))))))
(.seq (.reg [d 81 (.load (t 12) 4 true),
⟨none,none,.store (t 8) (t 81) 4⟩])
.ret)))))⟩
theorem tr154:trF Tryz.prog (y [] [] [[0,1,8,10,11,12,34,35]] [(2,([0,0,2,0,15,0,0,64,0,511,1023,2047],[(0,[]),(1,[]),(2,[]),(3,[]),(5,[]),(6,[]),(7,[]),(8,[]),(4,[6]),(9,[]),(10,[]),(11,[])])),(7,([0,0,3,7,0,0,48,112,255],[(0,[]),(1,[]),(2,[]),(3,[]),(4,[]),(5,[]),(6,[]),(7,[]),(8,[])])),(8,([0,1,0,0,12,28,60,127,255,511],[(0,[]),(1,[]),(2,[]),(3,[]),(4,[]),(5,[]),(6,[]),(7,[]),(8,[]),(9,[])])),(10,([0,1,0,4,12,28,0,0,0,384,896,0,0,6144,14336,32764,65532,131071,262143,524287],[(0,[]),(1,[]),(2,[]),(3,[]),(4,[]),(5,[]),(6,[]),(7,[]),(8,[]),(9,[]),(10,[]),(11,[]),(12,[]),(13,[]),(14,[]),(15,[1]),(16,[]),(17,[]),(18,[]),(19,[])]))] false) Tryz.f154=some ir154:=by kernel_rfl
def ir156:IFn:=⟨20,[.tmp 2 false],
.seq (.reg [d 2 (.mv (.cst .nilmap))])
(.seq (.reg [d 6 (.mkM),
m 3 6])
(.seq (.seq (.reg [m 7 0,
d 8 (.rng (t 7))])
(.block 0
(.loop [3,8]
(.seq (.reg [d 9 (.nxt (t 8)),
d 10 (.ext (t 9) 0)])
(.seq (.cond (t 10)
.skip
(.brk 0))
(.block 1
(.seq (.reg [d 11 (.ent (t 8)),
d 12 (.ext (t 11) 0),
d 13 (.ext (t 11) 1),
m 4 12,
m 5 13])
(.reg [m 14 3,
m 15 4,
d 16 (.bsl 0 4 true [(.bool false),v0,(.bool false),w0] []),
m 17 5,
d 18 (.app (t 16) (t 17) 4 48 true false),
⟨none,none,.mup .s (t 14) (t 15) (t 18)⟩]))))))))
(.seq (.reg [m 19 3,
m 2 19])
.ret)))⟩
theorem tr156:trF Tryz.prog (y [] [] [[3,8]] [] false) Tryz.f156=some ir156:=by kernel_rfl
def ir157:IFn:=⟨14,[],
.reg [m 4 0,
m 5 0,
d 6 (.nilc (t 5)),
q 7 6 2,
l 8 7,
m 9 1,
d 10 (.bsl 1 1 false [i0] [(0,1,(t 9))]),
d 11 (.app (t 8) (t 10) 1 8 false true),
d 12 (.nilc (t 4)),
q 13 12 2,
⟨none,none,.store (t 13) (t 11) 1⟩]⟩
theorem tr157:trF Tryz.prog (y [11] [] [] [] false) Tryz.f157=some ir157:=by kernel_rfl
def ir158:IFn:=⟨33,[.tmp 4 false],
.seq (.reg [d 4 (.mv (i 0))])
(.seq (.reg [m 9 0,
k 10 64 [t 9,w 0],
m 5 10,
d 6 (.mv (w 1))])
(.seq (.seq (.reg [m 11 1,
d 12 (.len .i (t 11)),
d 13 (.mv (i 0))])
(.block 0
(.loop [0,5,6,11,12,13]
(.seq (.reg [b 14 .lss (t 13) (t 12)])
(.seq (.cond (t 14)
.skip
(.brk 0))
(.seq (.block 1
(.seq (.reg [d 15 (.idxS (t 11) (t 13) 1),
l 16 15,
m 8 16])
(.seq (.reg [m 17 0,
m 18 5,
m 19 0,
m 20 6,
m 21 8,
k 22 191 [t 19,t 20,t 21],
k 23 190 [t 17,t 18,t 22],
m 5 23])
(.reg [m 24 0,
d 25 (.nilc (t 24)),
q 26 25 0,
l 27 26,
m 28 6,
m 29 6,
k 30 192 [t 27,t 28,t 29],
m 6 30]))))
(.reg [b 31 .add (t 13) (i 1),
m 13 31])))))))
(.seq (.reg [m 32 5,
m 4 32])
.ret)))⟩
theorem tr158:trF Tryz.prog (y [] [] [[0,5,6,11,12,13]] [] false) Tryz.f158=some ir158:=by kernel_rfl
def ir159:IFn:=⟨49,[.cell 4 4 true false,.tmp 5 false],
.seq (.reg [d 3 (.box (t 1) false),
d 4 (.allocz [i0,i0,(.bool false),w0] false),
d 5 (.mv (i 0))])
(.seq (.reg [m 10 0,
q 11 3 4,
l 12 11,
k 13 130 [t 10,t 12],
m 9 13,
d 14 (.ext (t 9) 0),
d 15 (.ext (t 9) 1),
m 6 14,
m 7 15])
(.seq (.seq (.reg [m 16 7,
b 17 .neq (t 16) (i 0)])
(.cond (t 17)
(.seq (.reg [d 18 (.bld [i0,i0,(.bool false),w0] []),
m 19 7,
⟨none,none,.store (t 4) (t 18) 4⟩,
m 5 19])
.ret)
.skip))
(.seq (.reg [m 21 0,
d 22 (.load (t 3) 5 true),
m 23 6,
k 24 193 [t 21,t 22,t 23],
m 20 24,
d 25 (.ext (t 20) 0),
d 26 (.ext (t 20) 1),
d 8 (.allocz [i0,i0,(.bool false),w0] false),
⟨none,none,.store (t 8) (t 25) 4⟩,
m 7 26])
(.seq (.seq (.reg [m 27 7,
b 28 .neq (t 27) (i 0)])
(.cond (t 28)
(.seq (.reg [d 29 (.bld [i0,i0,(.bool false),w0] []),
m 30 7,
⟨none,none,.store (t 4) (t 29) 4⟩,
m 5 30])
.ret)
.skip))
(.seq (.seq (.reg [q 31 8 0,
l 32 31,
b 33 .eql (t 32) (i 1)])
(.cond (t 33)
(.seq (.seq (.reg [q 34 8 1,
l 35 34,
b 36 .gtr (t 35) (i 60)])
(.cond (t 36)
(.seq (.reg [d 37 (.bld [i0,i0,(.bool false),w0] []),
⟨none,none,.store (t 4) (t 37) 4⟩,
d 5 (.mv (i 11))])
.ret)
.skip))
(.draw [(m 38 0,0,[]),
(m 39 0,1,[]),
(d 40 (.nilc (t 39)),2,[]),
(q 41 40 7,3,[]),
(l 42 41,4,[]),
(q 43 8 1,5,[]),
(l 44 43,6,[]),
(d 45 (.max [t 42,t 44]),7,[]),
(d 46 (.nilc (t 38)),8,[]),
(q 47 46 7,9,[]),
(⟨none,none,.store (t 47) (t 45) 1⟩,10,[])]))
.skip))
(.seq (.reg [d 48 (.load (t 8) 4 true),
⟨none,none,.store (t 4) (t 48) 4⟩,
d 5 (.mv (i 0))])
.ret))))))⟩
theorem tr159:trF Tryz.prog (y [] [] [] [(10,([0,0,2,6,14,0,32,126,255,511,1023],[(0,[]),(1,[]),(2,[]),(3,[]),(4,[]),(5,[]),(6,[]),(7,[]),(8,[]),(9,[]),(10,[])]))] false) Tryz.f159=some ir159:=by kernel_rfl
def ir160:IFn:=⟨22,[.tmp 4 false],
.seq (.reg [d 2 (.box (t 0) false),
d 4 (.mv (i 0))])
(.seq (.seq (.reg [d 5 (.mv (i 0))])
(.block 0
(.loop [1,2,5]
(.seq (.seq (.reg [m 6 5,
q 7 2 0,
l 8 7,
d 9 (.len .i (t 8)),
b 10 .lss (t 6) (t 9)])
(.cond (t 10)
.skip
(.brk 0)))
(.seq (.block 1
(.seq (.reg [q 13 2 0,
l 14 13,
m 15 5,
d 16 (.idxS (t 14) (t 15) 4),
q 17 16 0,
l 18 17,
m 19 1,
b 20 .eql (t 18) (t 19)])
(.cond (t 20)
(.seq (.reg [m 21 5,
m 4 21])
.ret)
.skip)))
(.reg [m 11 5,
b 12 .add (t 11) (i 1),
m 5 12]))))))
(.seq (.reg [d 4 (.mv (.cst (.int .i64 (-1))))])
.ret))⟩
theorem tr160:trF Tryz.prog (y [] [] [[1,2,5]] [] false) Tryz.f160=some ir160:=by kernel_rfl
def ir161:IFn:=⟨20,[.tmp 4 false],
.seq (.reg [d 4 (.mv (i 0))])
(.seq (.seq (.reg [d 5 (.mv (i 0))])
(.block 0
(.loop [0,1,5]
(.seq (.seq (.reg [m 6 5,
m 7 0,
d 8 (.len .i (t 7)),
b 9 .lss (t 6) (t 8)])
(.cond (t 9)
.skip
(.brk 0)))
(.seq (.block 1
(.seq (.reg [m 12 0,
m 13 5,
d 14 (.idxS (t 12) (t 13) 5),
q 15 14 0,
l 16 15,
m 17 1,
b 18 .eql (t 16) (t 17)])
(.cond (t 18)
(.seq (.reg [m 19 5,
m 4 19])
.ret)
.skip)))
(.reg [m 10 5,
b 11 .add (t 10) (i 1),
m 5 11]))))))
(.seq (.reg [d 4 (.mv (.cst (.int .i64 (-1))))])
.ret))⟩
theorem tr161:trF Tryz.prog (y [] [] [[0,1,5]] [] false) Tryz.f161=some ir161:=by kernel_rfl
def ir162:IFn:=⟨21,[.tmp 2 false],
.seq (.reg [d 2 (.mv (.cst (.vec [] .full)))])
(.seq (.reg [d 3 (.mv (.cst (.vec [] .full)))])
(.seq (.seq (.reg [d 4 (.mv (i 0))])
(.block 0
(.loop [0,3,4]
(.seq (.seq (.reg [m 5 4,
m 6 0,
d 7 (.len .i (t 6)),
b 8 .lss (t 5) (t 7)])
(.cond (t 8)
.skip
(.brk 0)))
(.seq (.block 1
(.reg [m 11 3,
d 12 (.bsl 0 1 false [i0] []),
m 13 0,
m 14 4,
d 15 (.idxS (t 13) (t 14) 1),
l 16 15,
d 17 (.app (t 12) (t 16) 1 8 false true),
d 18 (.bsl 1 1 false [v0] [(0,1,(t 17))]),
d 19 (.app (t 11) (t 18) 1 24 false true),
m 3 19]))
(.reg [m 9 4,
b 10 .add (t 9) (i 1),
m 4 10]))))))
(.seq (.reg [m 20 3,
m 2 20])
.ret)))⟩
theorem tr162:trF Tryz.prog (y [17,19] [] [[0,3,4]] [] false) Tryz.f162=some ir162:=by kernel_rfl
def ir163:IFn:=⟨82,[.tmp 6 false],
.seq (.reg [d 6 (.mv (.cst (.vec [] .full)))])
(.seq (.reg [d 7 (.mv (.cst (.vec [] .full)))])
(.seq (.seq (.reg [d 8 (.mv (i 0))])
(.block 0
(.loop [0,1,2,7,8]
(.seq (.seq (.reg [m 11 8,
m 12 0,
d 13 (.len .i (t 12)),
b 14 .lss (t 11) (t 13)])
(.cond (t 14)
.skip
(.brk 0)))
(.seq (.block 1
(.seq (.draw [(m 17 1,0,[]),
(m 18 0,1,[]),
(m 19 8,2,[]),
(d 20 (.idxS (t 18) (t 19) 5),3,[]),
(q 21 20 0,4,[]),
(l 22 21,5,[]),
(m 24 2,7,[]),
(m 25 0,8,[]),
(m 26 8,9,[]),
(d 27 (.idxS (t 25) (t 26) 5),10,[]),
(q 28 27 0,11,[]),
(l 29 28,12,[]),
(k 23 161 [t 17,t 22],6,[11]),
(k 30 161 [t 24,t 29],13,[]),
(m 9 23,14,[]),
(m 10 30,15,[])])
(.seq (.draw [(m 31 9,0,[]),
(b 32 .geq (t 31) (i 0),1,[]),
(m 33 32,2,[]),
(⟨some 34,some (33,true),.mv (t 10)⟩,3,[]),
(⟨some 35,some (33,true),.bin .geq .plain (t 34) (i 0)⟩,4,[]),
(d 36 (.pick (t 33) (t 35) (.cst (.bool false))),5,[]),
(m 37 36,6,[]),
(⟨some 38,some (37,true),.mv (t 1)⟩,7,[]),
(⟨some 39,some (37,true),.mv (t 9)⟩,8,[]),
(⟨some 40,some (37,true),.idxS (t 38) (t 39) 5⟩,9,[]),
(⟨some 41,some (37,true),.fad (t 40) 1⟩,10,[]),
(⟨some 42,some (37,true),.fad (t 41) 0⟩,11,[]),
(⟨some 43,some (37,true),.load (t 42) 1 false⟩,12,[]),
(⟨some 44,some (37,true),.mv (t 2)⟩,13,[]),
(⟨some 45,some (37,true),.mv (t 10)⟩,14,[]),
(⟨some 46,some (37,true),.idxS (t 44) (t 45) 5⟩,15,[]),
(⟨some 47,some (37,true),.fad (t 46) 1⟩,16,[]),
(⟨some 48,some (37,true),.fad (t 47) 0⟩,17,[]),
(⟨some 49,some (37,true),.load (t 48) 1 false⟩,18,[]),
(⟨some 50,some (37,true),.bin .eql .plain (t 43) (t 49)⟩,19,[]),
(d 51 (.pick (t 37) (t 50) (.cst (.bool false))),20,[])])
(.cond (t 51)
(.draw [(m 52 7,0,[]),
(m 53 0,1,[]),
(m 54 8,2,[]),
(d 55 (.idxS (t 53) (t 54) 5),3,[]),
(q 56 55 0,4,[]),
(l 57 56,5,[]),
(m 58 1,6,[]),
(m 59 9,7,[]),
(d 60 (.idxS (t 58) (t 59) 5),8,[]),
(q 61 60 1,9,[]),
(q 62 61 0,10,[]),
(l 63 62,11,[]),
(m 64 1,12,[]),
(m 65 9,13,[]),
(d 66 (.idxS (t 64) (t 65) 5),14,[]),
(q 67 66 1,15,[]),
(q 68 67 1,16,[]),
(l 69 68,17,[]),
(m 70 2,18,[]),
(m 71 10,19,[]),
(d 72 (.idxS (t 70) (t 71) 5),20,[]),
(q 73 72 1,21,[]),
(q 74 73 1,22,[]),
(l 75 74,23,[]),
(d 76 (.max [t 69,t 75]),24,[]),
(d 77 (.bld [i0,i0,(.bool false),w0] [(0,1,(t 63)),(1,1,(t 76))]),25,[]),
(d 78 (.bld [s0,i0,i0,(.bool false),w0] [(0,1,(t 57)),(1,4,(t 77))]),26,[]),
(d 79 (.bsl 1 5 true [s0,i0,i0,(.bool false),w0] [(0,5,(t 78))]),27,[]),
(d 80 (.app (t 52) (t 79) 5 48 true false),28,[]),
(m 7 80,29,[])])
.skip))))
(.reg [m 15 8,
b 16 .add (t 15) (i 1),
m 8 16]))))))
(.seq (.reg [m 81 7,
m 6 81])
.ret)))⟩
theorem tr163:trF Tryz.prog (y [] [] [[0,1,2,7,8]] [(5,([0,0,0,6,14,30,63,0,0,0,768,1792,3840,8191,16383,32767],[(0,[]),(1,[]),(2,[]),(3,[]),(4,[]),(5,[]),(7,[]),(8,[]),(9,[]),(10,[]),(11,[]),(12,[]),(6,[11]),(13,[]),(14,[]),(15,[])])),(6,([0,1,3,7,15,31,63,127,127,511,1023,2047,4095,127,127,24703,57471,123007,254079,524287,1048575],[(0,[]),(1,[]),(2,[]),(3,[]),(4,[]),(5,[]),(6,[]),(7,[]),(8,[]),(9,[]),(10,[]),(11,[]),(12,[]),(13,[]),(14,[]),(15,[]),(16,[]),(17,[]),(18,[]),(19,[]),(20,[])])),(7,([0,0,0,6,14,30,0,0,192,448,960,1984,0,0,12288,28672,61440,126976,0,0,786432,1835008,3932160,8126464,16773120,33554368,67108862,134217726,268435455,536870911],[(0,[]),(1,[]),(2,[]),(3,[]),(4,[]),(5,[]),(6,[]),(7,[]),(8,[]),(9,[]),(10,[]),(11,[]),(12,[]),(13,[]),(14,[]),(15,[]),(16,[]),(17,[]),(18,[]),(19,[]),(20,[]),(21,[]),(22,[]),(23,[]),(24,[]),(25,[]),(26,[]),(27,[]),(28,[]),(29,[])]))] false) Tryz.f163=some ir163:=by kernel_rfl
def ir164:IFn:=⟨7,[.cell 2 4 true false],
.seq (.reg [d 2 (.allocz [i0,i0,(.bool false),w0] false)])
(.seq (.reg [m 3 0,
k 4 77 [t 3],
m 5 0,
d 6 (.bld [i0,i0,(.bool false),w0] [(0,1,(i 1)),(1,1,(t 4)),(2,1,(.cst (.bool true))),(3,1,(t 5))]),
⟨none,none,.store (t 2) (t 6) 4⟩])
.ret)⟩
theorem tr164:trF Tryz.prog y0 Tryz.f164=some ir164:=by kernel_rfl
def ir177:IFn:=⟨20,[.tmp 2 false],
.seq (.reg [d 2 (.mv (.cst .nilmap))])
(.seq (.reg [d 6 (.mkM),
m 3 6])
(.seq (.seq (.reg [m 7 0,
d 8 (.rng (t 7))])
(.block 0
(.loop [3,8]
(.seq (.reg [d 9 (.nxt (t 8)),
d 10 (.ext (t 9) 0)])
(.seq (.cond (t 10)
.skip
(.brk 0))
(.block 1
(.seq (.reg [d 11 (.ent (t 8)),
d 12 (.ext (t 11) 0),
d 13 (.ext (t 11) 1),
m 4 12,
m 5 13])
(.reg [m 14 3,
m 15 4,
d 16 (.bsl 0 1 false [i0] []),
m 17 5,
d 18 (.app (t 16) (t 17) 1 8 false true),
⟨none,none,.mup .s (t 14) (t 15) (t 18)⟩]))))))))
(.seq (.reg [m 19 3,
m 2 19])
.ret)))⟩
theorem tr177:trF Tryz.prog (y [18] [] [[3,8]] [] false) Tryz.f177=some ir177:=by kernel_rfl
def ir178:IFn:=⟨7,[.cell 2 4 true false],
.seq (.reg [d 2 (.allocz [i0,i0,(.bool false),w0] false)])
(.seq (.reg [m 3 0,
k 4 71 [t 3],
m 5 0,
d 6 (.bld [i0,i0,(.bool false),w0] [(0,1,(i 1)),(1,1,(t 4)),(2,1,(.cst (.bool true))),(3,1,(t 5))]),
⟨none,none,.store (t 2) (t 6) 4⟩])
.ret)⟩
theorem tr178:trF Tryz.prog y0 Tryz.f178=some ir178:=by kernel_rfl
def ir179:IFn:=⟨23,[.cell 4 4 true false],
.seq (.reg [d 3 (.box (t 1) false),
d 4 (.allocz [i0,i0,(.bool false),w0] false)])
(.seq (.seq (.reg [q 5 3 0,
l 6 5,
b 7 .eql (t 6) (i 1)])
(.cond (t 7)
(.seq (.seq (.reg [q 8 3 1,
l 9 8,
b 10 .gtr (t 9) (i 60)])
(.cond (t 10)
(.reg [k 11 96 [i 11]])
.skip))
(.draw [(m 12 0,0,[]),
(m 13 0,1,[]),
(d 14 (.nilc (t 13)),2,[]),
(q 15 14 6,3,[]),
(l 16 15,4,[]),
(q 17 3 1,5,[]),
(l 18 17,6,[]),
(d 19 (.max [t 16,t 18]),7,[]),
(d 20 (.nilc (t 12)),8,[]),
(q 21 20 6,9,[]),
(⟨none,none,.store (t 21) (t 19) 1⟩,10,[])]))
.skip))
(.seq (.reg [d 22 (.load (t 3) 4 true),
⟨none,none,.store (t 4) (t 22) 4⟩])
.ret))⟩
theorem tr179:trF Tryz.prog (y [] [] [] [(4,([0,0,2,6,14,0,32,126,255,511,1023],[(0,[]),(1,[]),(2,[]),(3,[]),(4,[]),(5,[]),(6,[]),(7,[]),(8,[]),(9,[]),(10,[])]))] false) Tryz.f179=some ir179:=by kernel_rfl
def ir180:IFn:=⟨53,[.cell 4 4 true false],
.seq (.reg [d 4 (.allocz [i0,i0,(.bool false),w0] false)])
(.seq (.seq (.reg [m 12 0,
d 13 (.nilc (t 12)),
q 14 13 4,
l 15 14,
m 16 1,
d 17 (.lkp .s (t 15) (t 16) (.agg [i0,i0,(.bool false),w0]) true),
m 11 17,
d 18 (.ext (t 11) 0),
d 19 (.ext (t 11) 1),
d 5 (.allocz [i0,i0,(.bool false),w0] false),
⟨none,none,.store (t 5) (t 18) 4⟩,
m 6 19])
(.seq (.reg [m 20 6])
(.cond (t 20)
(.seq (.reg [d 21 (.load (t 5) 4 true),
⟨none,none,.store (t 4) (t 21) 4⟩])
.ret)
.skip)))
(.seq (.seq (.reg [m 23 0,
d 24 (.nilc (t 23)),
q 25 24 2,
l 26 25,
m 27 1,
d 28 (.lkp .s (t 26) (t 27) (.agg [i0,i0,(.bool false),w0]) true),
m 22 28,
d 29 (.ext (t 22) 0),
d 30 (.ext (t 22) 1),
d 7 (.allocz [i0,i0,(.bool false),w0] false),
⟨none,none,.store (t 7) (t 29) 4⟩,
m 8 30])
(.seq (.reg [m 31 8])
(.cond (t 31)
(.seq (.reg [d 32 (.load (t 7) 4 true),
⟨none,none,.store (t 4) (t 32) 4⟩])
.ret)
.skip)))
(.seq (.seq (.reg [m 34 0,
d 35 (.nilc (t 34)),
q 36 35 0,
l 37 36,
m 38 1,
d 39 (.lkp .s (t 37) (t 38) (.agg [s0,i0,i0,i0]) true),
m 33 39,
d 40 (.ext (t 33) 0),
d 41 (.ext (t 33) 1),
d 9 (.allocz [s0,i0,i0,i0] false),
⟨none,none,.store (t 9) (t 40) 4⟩,
m 10 41])
(.seq (.reg [m 42 10,
m 43 42,
⟨some 44,some (43,true),.fad (t 9) 3⟩,
⟨some 45,some (43,true),.load (t 44) 1 false⟩,
⟨some 46,some (43,true),.bin .eql .plain (t 45) (i 0)⟩,
d 47 (.pick (t 43) (t 46) (.cst (.bool false)))])
(.cond (t 47)
(.seq (.reg [q 48 9 2,
l 49 48,
k 50 198 [t 49],
⟨none,none,.store (t 4) (t 50) 4⟩])
.ret)
.skip)))
(.seq (.reg [k 51 96 [i 4]])
(.seq (.reg [d 52 (.bld [i0,i0,(.bool false),w0] []),
⟨none,none,.store (t 4) (t 52) 4⟩])
.ret)))))⟩
theorem tr180:trF Tryz.prog y0 Tryz.f180=some ir180:=by kernel_rfl
def ir181:IFn:=⟨57,[.cell 6 4 true false],
.seq (.reg [d 5 (.box (t 2) false),
d 6 (.allocz [i0,i0,(.bool false),w0] false)])
(.seq (.seq (.reg [m 12 0,
d 13 (.nilc (t 12)),
q 14 13 0,
l 15 14,
m 16 1,
d 17 (.lkp .s (t 15) (t 16) (.agg [s0,i0,i0,i0]) true),
m 11 17,
d 18 (.ext (t 11) 0),
d 19 (.ext (t 11) 1),
d 7 (.allocz [s0,i0,i0,i0] false),
⟨none,none,.store (t 7) (t 18) 4⟩,
m 8 19])
(.seq (.reg [m 20 8,
m 21 20,
⟨some 22,some (21,true),.fad (t 7) 3⟩,
⟨some 23,some (21,true),.load (t 22) 1 false⟩,
⟨some 24,some (21,true),.bin .gtr .plain (t 23) (i 0)⟩,
d 25 (.pick (t 21) (t 24) (.cst (.bool false)))])
(.cond (t 25)
(.seq (.reg [d 26 (.load (t 5) 4 true),
q 27 7 3,
l 28 27,
k 29 146 [t 26,t 28]])
(.seq (.reg [q 30 7 2,
l 31 30,
k 32 198 [t 31],
⟨none,none,.store (t 6) (t 32) 4⟩])
.ret))
.skip)))
(.seq (.seq (.reg [m 34 0,
d 35 (.nilc (t 34)),
q 36 35 1,
l 37 36,
m 38 1,
d 39 (.lkp .s (t 37) (t 38) i0 true),
m 33 39,
d 40 (.ext (t 33) 0),
d 41 (.ext (t 33) 1),
m 9 40,
m 10 41])
(.seq (.reg [m 42 10])
(.cond (t 42)
(.seq (.draw [(m 43 0,0,[]),
(d 44 (.nilc (t 43)),1,[]),
(q 45 44 3,2,[]),
(l 46 45,3,[]),
(m 47 1,4,[]),
(d 48 (.lkp .s (t 46) (t 47) (.vec [] .full) false),5,[]),
(d 49 (.load (t 5) 4 true),6,[]),
(m 50 9,7,[]),
(k 51 146 [t 49,t 50],8,[3,5]),
(d 52 (.idxS (t 48) (t 51) 1),9,[]),
(l 53 52,10,[]),
(k 54 198 [t 53],11,[]),
(⟨none,none,.store (t 6) (t 54) 4⟩,12,[])])
.ret)
.skip)))
(.seq (.reg [k 55 96 [i 4]])
(.seq (.reg [d 56 (.bld [i0,i0,(.bool false),w0] []),
⟨none,none,.store (t 6) (t 56) 4⟩])
.ret))))⟩
theorem tr181:trF Tryz.prog (y [] [] [] [(7,([0,1,3,7,0,31,0,0,192,511,1023,2047,4095],[(0,[]),(1,[]),(2,[]),(3,[]),(4,[]),(5,[]),(6,[]),(7,[]),(8,[3,5]),(9,[]),(10,[]),(11,[]),(12,[])]))] false) Tryz.f181=some ir181:=by kernel_rfl
def ir182:IFn:=⟨81,[.cell 6 4 true false],
.seq (.reg [d 4 (.box (t 1) false),
d 5 (.box (t 2) false),
d 6 (.allocz [i0,i0,(.bool false),w0] false)])
(.seq (.reg [d 7 (.mv (i 1))])
(.seq (.seq (.reg [m 9 0,
b 10 .eql (t 9) (i 6),
m 11 10,
⟨some 12,some (11,false),.mv (t 0)⟩,
⟨some 13,some (11,false),.bin .eql .plain (t 12) (i 7)⟩,
d 14 (.pick (t 11) (.cst (.bool true)) (t 13))])
(.cond (t 14)
(.reg [d 7 (.mv (i 2))])
.skip))
(.seq (.reg [d 15 (.load (t 4) 4 true),
m 16 7,
k 17 147 [t 15,t 16]])
(.seq (.reg [d 18 (.load (t 5) 4 true),
m 19 7,
k 20 147 [t 18,t 19]])
(.seq (.reg [d 21 (.load (.glob 1 [(.int .i64 2),i0,(.bool false),w0]) 4 true),
d 8 (.allocz [i0,i0,(.bool false),w0] false),
⟨none,none,.store (t 8) (t 21) 4⟩])
(.seq (.seq (.reg [m 22 0])
(.block 0
(.seq (.reg [b 25 .eql (t 22) (i 1),
m 24 25])
(.cond (t 24)
(.seq (.reg [q 26 4 1,
l 27 26,
q 28 5 1,
l 29 28,
d 30 (.max [t 27,t 29]),
b 31 .add (t 30) (i 1),
k 32 198 [t 31],
⟨none,none,.store (t 8) (t 32) 4⟩])
(.reg [q 33 4 3,
l 34 33,
q 35 5 3,
l 36 35,
b 37 .add (t 34) (t 36),
q 38 8 3,
⟨none,none,.store (t 38) (t 37) 1⟩]))
(.seq (.reg [b 40 .eql (t 22) (i 2),
m 39 40])
(.cond (t 39)
(.seq (.reg [q 41 4 1,
l 42 41,
k 43 198 [t 42],
⟨none,none,.store (t 8) (t 43) 4⟩])
(.seq (.reg [q 44 4 3,
l 45 44,
q 46 5 3,
l 47 46,
b 48 .gtr (t 45) (t 47)])
(.cond (t 48)
(.reg [q 49 4 3,
l 50 49,
q 51 5 3,
l 52 51,
b 53 .sub (t 50) (t 52),
q 54 8 3,
⟨none,none,.store (t 54) (t 53) 1⟩])
.skip)))
(.seq (.reg [b 56 .eql (t 22) (i 3),
m 55 56])
(.cond (t 55)
(.seq (.reg [q 57 4 1,
l 58 57,
q 59 5 1,
l 60 59,
b 61 .add (t 58) (t 60),
k 62 198 [t 61],
⟨none,none,.store (t 8) (t 62) 4⟩])
(.reg [q 63 4 3,
l 64 63,
q 65 5 3,
l 66 65,
b 67 .mul (t 64) (t 66),
q 68 8 3,
⟨none,none,.store (t 68) (t 67) 1⟩]))
(.seq (.reg [d 23 (.load (.glob 1 [(.int .i64 2),i0,(.bool false),w0]) 4 true),
⟨none,none,.store (t 6) (t 23) 4⟩])
.ret)))))))))
(.seq (.reg [q 69 4 2,
l 70 69,
m 71 70,
⟨some 72,some (71,true),.fad (t 5) 2⟩,
⟨some 73,some (71,true),.load (t 72) 1 false⟩,
d 74 (.pick (t 71) (t 73) (.cst (.bool false))),
q 75 8 2,
⟨none,none,.store (t 75) (t 74) 1⟩])
(.seq (.seq (.reg [q 76 8 2,
l 77 76,
d 78 (.un .not (t 77))])
(.cond (t 78)
(.reg [q 79 8 3,
⟨none,none,.store (t 79) (w 0) 1⟩])
.skip))
(.seq (.reg [d 80 (.load (t 8) 4 true),
⟨none,none,.store (t 6) (t 80) 4⟩])
.ret)))))))))⟩
theorem tr182:trF Tryz.prog y0 Tryz.f182=some ir182:=by kernel_rfl
def ir183:IFn:=⟨65,[.tmp 6 false,.tmp 7 false,.tmp 8 false],
.seq (.reg [d 4 (.box (t 1) false),
d 5 (.box (t 2) false),
d 6 (.mv (w 0)),
d 7 (.mv (i 0)),
d 8 (.mv (.cst (.bool false)))])
(.seq (.seq (.reg [q 9 4 2,
l 10 9,
d 11 (.un .not (t 10)),
m 12 11,
⟨some 13,some (12,false),.fad (t 5) 2⟩,
⟨some 14,some (12,false),.load (t 13) 1 false⟩,
⟨some 15,some (12,false),.un .not (t 14)⟩,
d 16 (.pick (t 12) (.cst (.bool true)) (t 15))])
(.cond (t 16)
(.seq (.reg [d 6 (.mv (w 0)),
d 7 (.mv (i 0)),
d 8 (.mv (.cst (.bool false)))])
.ret)
.skip))
(.seq (.seq (.reg [m 17 0])
(.block 0
(.seq (.reg [b 19 .eql (t 17) (i 1),
m 18 19])
(.cond (t 18)
(.seq (.draw [(q 20 4 3,0,[]),
(l 21 20,1,[]),
(q 22 5 3,2,[]),
(l 23 22,3,[]),
(b 24 .add (t 21) (t 23),4,[]),
(q 25 4 1,5,[]),
(l 26 25,6,[]),
(d 27 (.len .i (t 26)),7,[]),
(q 28 5 1,8,[]),
(l 29 28,9,[]),
(d 30 (.len .i (t 29)),10,[]),
(d 31 (.max [t 27,t 30]),11,[]),
(b 32 .add (t 31) (i 1),12,[]),
(m 6 24,13,[]),
(m 7 32,14,[]),
(d 8 (.mv (.cst (.bool true))),15,[])])
.ret)
(.seq (.reg [b 34 .eql (t 17) (i 2),
m 33 34])
(.cond (t 33)
(.seq (.seq (.reg [q 35 5 3,
l 36 35,
q 37 4 3,
l 38 37,
b 39 .gtr (t 36) (t 38)])
(.cond (t 39)
(.seq (.draw [(q 40 4 1,0,[]),
(l 41 40,1,[]),
(d 42 (.len .i (t 41)),2,[]),
(d 6 (.mv (w 0)),3,[]),
(m 7 42,4,[]),
(d 8 (.mv (.cst (.bool true))),5,[])])
.ret)
.skip))
(.seq (.draw [(q 43 4 3,0,[]),
(l 44 43,1,[]),
(q 45 5 3,2,[]),
(l 46 45,3,[]),
(b 47 .sub (t 44) (t 46),4,[]),
(q 48 4 1,5,[]),
(l 49 48,6,[]),
(d 50 (.len .i (t 49)),7,[]),
(m 6 47,8,[]),
(m 7 50,9,[]),
(d 8 (.mv (.cst (.bool true))),10,[])])
.ret))
(.seq (.reg [b 52 .eql (t 17) (i 3),
m 51 52])
(.cond (t 51)
(.seq (.draw [(q 53 4 3,0,[]),
(l 54 53,1,[]),
(q 55 5 3,2,[]),
(l 56 55,3,[]),
(b 57 .mul (t 54) (t 56),4,[]),
(q 58 4 1,5,[]),
(l 59 58,6,[]),
(d 60 (.len .i (t 59)),7,[]),
(q 61 5 1,8,[]),
(l 62 61,9,[]),
(d 63 (.len .i (t 62)),10,[]),
(b 64 .add (t 60) (t 63),11,[]),
(m 6 57,12,[]),
(m 7 64,13,[]),
(d 8 (.mv (.cst (.bool true))),14,[])])
.ret)
.skip))))))))
(.seq (.reg [d 6 (.mv (w 0)),
d 7 (.mv (i 0)),
d 8 (.mv (.cst (.bool false)))])
.ret)))⟩
theorem tr183:trF Tryz.prog (y [] [] [] [(5,([0,1,0,4,15,0,32,96,0,256,768,2016,4064,31,16383,32767],[(0,[]),(1,[]),(2,[]),(3,[]),(4,[]),(5,[]),(6,[]),(7,[]),(8,[]),(9,[]),(10,[]),(11,[]),(12,[]),(13,[]),(14,[]),(15,[])])),(8,([0,1,3,0,15,31],[(0,[]),(1,[]),(2,[]),(3,[]),(4,[]),(5,[])])),(9,([0,1,0,4,15,0,32,96,31,511,1023],[(0,[]),(1,[]),(2,[]),(3,[]),(4,[]),(5,[]),(6,[]),(7,[]),(8,[]),(9,[]),(10,[])])),(11,([0,1,0,4,15,0,32,96,0,256,768,2016,31,8191,16383],[(0,[]),(1,[]),(2,[]),(3,[]),(4,[]),(5,[]),(6,[]),(7,[]),(8,[]),(9,[]),(10,[]),(11,[]),(12,[]),(13,[]),(14,[])]))] false) Tryz.f183=some ir183:=by kernel_rfl
def ir184:IFn:=⟨68,[.tmp 8 false],
.seq (.reg [d 8 (.mv (.cst (.vec [] .full)))])
(.seq (.reg [d 16 (.mkM),
m 17 0,
d 18 (.mkF (.func 199) [t 17] []),
⟨none,none,.mup .i (t 16) (i 1) (t 18)⟩,
m 19 0,
d 20 (.mkF (.func 200) [t 19] []),
⟨none,none,.mup .i (t 16) (i 2) (t 20)⟩,
m 21 0,
d 22 (.mkF (.func 201) [t 21] []),
⟨none,none,.mup .i (t 16) (i 3) (t 22)⟩,
m 23 16,
m 9 23])
(.seq (.seq (.reg [m 25 9,
m 26 1,
d 27 (.lkp .i (t 25) (t 26) .nilfunc true),
m 24 27,
d 28 (.ext (t 24) 0),
d 29 (.ext (t 24) 1),
m 10 28,
m 11 29])
(.seq (.reg [m 30 11])
(.cond (t 30)
(.seq (.reg [m 31 10,
m 32 2,
m 33 3,
d 34 (.callv (t 31) [t 32,t 33]),
m 8 34])
.ret)
.skip)))
(.seq (.reg [d 35 (.mkM),
m 36 0,
d 37 (.mkF (.func 202) [t 36] []),
⟨none,none,.mup .i (t 35) (i 4) (t 37)⟩,
m 38 0,
d 39 (.mkF (.func 203) [t 38] []),
⟨none,none,.mup .i (t 35) (i 5) (t 39)⟩,
m 40 35,
m 12 40])
(.seq (.seq (.reg [m 42 12,
m 43 1,
d 44 (.lkp .i (t 42) (t 43) .nilfunc true),
m 41 44,
d 45 (.ext (t 41) 0),
d 46 (.ext (t 41) 1),
m 13 45,
m 14 46])
(.seq (.reg [m 47 14])
(.cond (t 47)
(.seq (.reg [m 48 13,
m 49 2,
m 50 3,
d 51 (.callv (t 48) [t 49,t 50]),
d 52 (.bsl 1 1 false [i0] [(0,1,(t 51))]),
m 8 52])
.ret)
.skip)))
(.seq (.reg [m 53 0,
d 54 (.mkF (.func 204) [t 53] []),
m 15 54])
(.seq (.seq (.reg [m 55 1,
b 56 .eql (t 55) (i 7)])
(.cond (t 56)
(.reg [m 57 0,
d 58 (.mkF (.func 205) [t 57] []),
m 15 58])
.skip))
(.seq (.draw [(m 59 15,0,[]),
(m 60 2,1,[]),
(d 61 (.idxS (t 60) (i 0) 1),2,[]),
(l 62 61,3,[]),
(m 63 3,4,[]),
(d 64 (.idxS (t 63) (i 0) 1),5,[]),
(l 65 64,6,[]),
(d 66 (.callv (t 59) [t 62,t 65]),7,[]),
(d 67 (.bsl 1 1 false [i0] [(0,1,(t 66))]),8,[]),
(m 8 67,9,[])])
.ret)))))))⟩
theorem tr184:trF Tryz.prog (y [] [] [] [(12,([0,0,2,6,0,16,48,127,255,511],[(0,[]),(1,[]),(2,[]),(3,[]),(4,[]),(5,[]),(6,[]),(7,[]),(8,[]),(9,[])]))] false) Tryz.f184=some ir184:=by kernel_rfl
def ir185:IFn:=⟨16,[.tmp 4 false],
.seq (.reg [d 4 (.mv (.cst (.vec [] .full)))])
(.seq (.reg [d 5 (.mv (.cst (.vec [] .full)))])
(.seq (.seq (.reg [m 6 1,
d 7 (.mv (i 0))])
(.block 0
(.loop [0,5,6,7]
(.seq (.reg [b 8 .lss (t 7) (t 6)])
(.seq (.cond (t 8)
.skip
(.brk 0))
(.seq (.block 1
(.reg [m 9 5,
m 10 0,
k 11 98 [t 10,i 1,(.cst (.bool true))],
d 12 (.bsl 1 1 false [i0] [(0,1,(t 11))]),
d 13 (.app (t 9) (t 12) 1 8 false false),
m 5 13]))
(.reg [b 14 .add (t 7) (i 1),
m 7 14])))))))
(.seq (.reg [m 15 5,
m 4 15])
.ret)))⟩
theorem tr185:trF Tryz.prog (y [] [] [[0,5,6,7]] [] false) Tryz.f185=some ir185:=by kernel_rfl
def ir186:IFn:=⟨19,[.tmp 8 false],
.seq (.reg [d 8 (.mv (i 0))])
(.seq (.reg [m 9 0,
m 10 3,
m 11 0,
m 12 1,
m 13 0,
m 14 2,
m 15 3,
k 16 187 [t 13,t 14,t 15],
k 17 206 [t 11,t 12,t 16],
k 18 190 [t 9,t 10,t 17],
m 8 18])
.ret)⟩
theorem tr186:trF Tryz.prog y0 Tryz.f186=some ir186:=by kernel_rfl
def ir187:IFn:=⟨12,[.tmp 6 false],
.seq (.reg [d 6 (.mv (i 0))])
(.seq (.reg [m 7 0,
m 8 1,
m 9 2,
d 10 (.bld [i0,i0,i0,i0,w0] [(0,1,(i 4)),(2,1,(t 8)),(3,1,(t 9))]),
k 11 99 [t 7,t 10],
m 6 11])
.ret)⟩
theorem tr187:trF Tryz.prog y0 Tryz.f187=some ir187:=by kernel_rfl
def ir188:IFn:=⟨23,[.tmp 6 false],
.seq (.reg [d 6 (.mv (.cst (.vec [] .full)))])
(.seq (.reg [d 8 (.bsl 0 1 false [i0] []),
m 9 1,
d 10 (.app (t 8) (t 9) 1 8 false false),
m 7 10])
(.seq (.block 0
(.loop [0,2,7]
(.seq (.seq (.reg [m 11 7,
d 12 (.len .i (t 11)),
m 13 2,
b 14 .lss (t 12) (t 13)])
(.cond (t 14)
.skip
(.brk 0)))
(.block 1
(.reg [m 15 7,
m 16 0,
d 17 (.nilc (t 16)),
q 18 17 2,
l 19 18,
d 20 (.bsl 1 1 false [i0] [(0,1,(t 19))]),
d 21 (.app (t 15) (t 20) 1 8 false false),
m 7 21])))))
(.seq (.reg [m 22 7,
m 6 22])
.ret)))⟩
theorem tr188:trF Tryz.prog (y [] [] [[0,2,7]] [] false) Tryz.f188=some ir188:=by kernel_rfl
def ir190:IFn:=⟨12,[.tmp 6 false],
.seq (.reg [d 6 (.mv (i 0))])
(.seq (.reg [m 7 0,
m 8 1,
m 9 2,
d 10 (.bld [i0,i0,i0,i0,w0] [(0,1,(i 3)),(2,1,(t 8)),(3,1,(t 9))]),
k 11 99 [t 7,t 10],
m 6 11])
.ret)⟩
theorem tr190:trF Tryz.prog y0 Tryz.f190=some ir190:=by kernel_rfl
def ir191:IFn:=⟨12,[.tmp 6 false],
.seq (.reg [d 6 (.mv (i 0))])
(.seq (.reg [m 7 0,
m 8 2,
m 9 1,
d 10 (.bld [i0,i0,i0,i0,w0] [(0,1,(i 5)),(2,1,(t 8)),(4,1,(t 9))]),
k 11 99 [t 7,t 10],
m 6 11])
.ret)⟩
theorem tr191:trF Tryz.prog y0 Tryz.f191=some ir191:=by kernel_rfl
def ir192:IFn:=⟨12,[.tmp 6 false],
.seq (.reg [d 6 (.mv (w 0))])
(.seq (.reg [m 7 0,
m 8 1,
m 9 2,
b 10 .add (t 8) (t 9),
k 11 207 [t 7,w 0,t 10],
m 6 11])
.ret)⟩
theorem tr192:trF Tryz.prog y0 Tryz.f192=some ir192:=by kernel_rfl
def ir193:IFn:=⟨87,[.cell 6 4 true false,.tmp 7 false],
.seq (.reg [d 4 (.box (t 1) false),
d 6 (.allocz [i0,i0,(.bool false),w0] false),
d 7 (.mv (i 0))])
(.seq (.seq (.reg [q 8 4 0,
l 9 8])
(.block 0
(.seq (.reg [b 11 .eql (t 9) (i 1),
m 10 11])
(.cond (t 10)
(.seq (.reg [q 12 4 2,
l 13 12,
k 14 164 [t 13],
⟨none,none,.store (t 6) (t 14) 4⟩,
d 7 (.mv (i 0))])
.ret)
(.seq (.reg [b 16 .eql (t 9) (i 2),
m 15 16])
(.cond (t 15)
(.seq (.reg [m 17 0,
q 18 4 3,
l 19 18,
k 20 208 [t 17,t 19],
d 21 (.ext (t 20) 0),
d 22 (.ext (t 20) 1),
⟨none,none,.store (t 6) (t 21) 4⟩,
m 7 22])
.ret)
(.seq (.reg [b 24 .eql (t 9) (i 3),
m 23 24])
(.cond (t 23)
(.seq (.draw [(m 25 0,0,[]),
(q 26 4 3,1,[]),
(l 27 26,2,[]),
(m 28 2,3,[]),
(d 29 (.idxS (t 28) (i 0) 4),4,[]),
(d 30 (.load (t 29) 4 true),5,[]),
(k 31 209 [t 25,t 27,t 30],6,[]),
(d 32 (.ext (t 31) 0),7,[]),
(d 33 (.ext (t 31) 1),8,[]),
(⟨none,none,.store (t 6) (t 32) 4⟩,9,[]),
(m 7 33,10,[])])
.ret)
(.seq (.reg [b 35 .eql (t 9) (i 4),
m 34 35])
(.cond (t 34)
(.seq (.draw [(q 36 4 1,0,[]),
(l 37 36,1,[]),
(m 38 2,2,[]),
(d 39 (.idxS (t 38) (i 0) 4),3,[]),
(d 40 (.load (t 39) 4 true),4,[]),
(m 41 2,5,[]),
(d 42 (.idxS (t 41) (i 1) 4),6,[]),
(d 43 (.load (t 42) 4 true),7,[]),
(k 44 210 [t 37,t 40,t 43],8,[]),
(d 45 (.ext (t 44) 0),9,[]),
(d 46 (.ext (t 44) 1),10,[]),
(⟨none,none,.store (t 6) (t 45) 4⟩,11,[]),
(m 7 46,12,[])])
.ret)
(.seq (.reg [b 48 .eql (t 9) (i 5),
m 47 48])
(.cond (t 47)
(.seq (.seq (.reg [m 49 2,
d 50 (.idxS (t 49) (i 0) 4),
q 51 50 0,
l 52 51,
b 53 .neq (t 52) (i 2)])
(.cond (t 53)
(.seq (.reg [d 54 (.bld [i0,i0,(.bool false),w0] []),
⟨none,none,.store (t 6) (t 54) 4⟩,
d 7 (.mv (i 5))])
.ret)
.skip))
(.seq (.reg [d 55 (.bld [i0,i0,(.bool false),w0] [(0,1,(i 2))]),
⟨none,none,.store (t 6) (t 55) 4⟩,
d 7 (.mv (i 0))])
.ret))
.skip))))))))))))
(.seq (.seq (.draw [(m 56 2,0,[]),
(d 57 (.idxS (t 56) (i 0) 4),1,[]),
(q 58 57 0,2,[]),
(l 59 58,3,[]),
(b 60 .neq (t 59) (i 2),4,[]),
(m 61 60,5,[]),
(⟨some 62,some (61,false),.mv (t 2)⟩,6,[]),
(⟨some 63,some (61,false),.idxS (t 62) (i 1) 4⟩,7,[]),
(⟨some 64,some (61,false),.fad (t 63) 0⟩,8,[]),
(⟨some 65,some (61,false),.load (t 64) 1 false⟩,9,[]),
(⟨some 66,some (61,false),.mv (t 2)⟩,10,[]),
(⟨some 67,some (61,false),.idxS (t 66) (i 2) 4⟩,11,[]),
(⟨some 68,some (61,false),.fad (t 67) 0⟩,12,[]),
(⟨some 69,some (61,false),.load (t 68) 1 false⟩,13,[]),
(⟨some 70,some (61,false),.bin .neq .plain (t 65) (t 69)⟩,14,[]),
(d 71 (.pick (t 61) (.cst (.bool true)) (t 70)),15,[])])
(.cond (t 71)
(.seq (.reg [d 72 (.bld [i0,i0,(.bool false),w0] []),
⟨none,none,.store (t 6) (t 72) 4⟩,
d 7 (.mv (i 5))])
.ret)
.skip))
(.seq (.draw [(m 73 2,0,[]),
(d 74 (.idxS (t 73) (i 1) 4),1,[]),
(q 75 74 0,2,[]),
(l 76 75,3,[]),
(m 77 2,4,[]),
(d 78 (.idxS (t 77) (i 1) 4),5,[]),
(q 79 78 1,6,[]),
(l 80 79,7,[]),
(m 81 2,8,[]),
(d 82 (.idxS (t 81) (i 2) 4),9,[]),
(q 83 82 1,10,[]),
(l 84 83,11,[]),
(d 85 (.max [t 80,t 84]),12,[]),
(d 86 (.bld [i0,i0,(.bool false),w0] [(0,1,(t 76)),(1,1,(t 85))]),13,[]),
(⟨none,none,.store (t 6) (t 86) 4⟩,14,[]),
(d 7 (.mv (i 0)),15,[])])
.ret)))⟩
theorem tr193:trF Tryz.prog (y [] [] [] [(7,([0,0,2,0,8,24,63,127,127,511,1023],[(0,[]),(1,[]),(2,[]),(3,[]),(4,[]),(5,[]),(6,[]),(7,[]),(8,[]),(9,[]),(10,[])])),(9,([0,1,0,4,12,0,32,96,255,511,511,2047,4095],[(0,[]),(1,[]),(2,[]),(3,[]),(4,[]),(5,[]),(6,[]),(7,[]),(8,[]),(9,[]),(10,[]),(11,[]),(12,[])])),(14,([0,1,3,7,15,31,63,127,255,511,63,1087,3135,7231,16383,32767],[(0,[]),(1,[]),(2,[]),(3,[]),(4,[]),(5,[]),(6,[]),(7,[]),(8,[]),(9,[]),(10,[]),(11,[]),(12,[]),(13,[]),(14,[]),(15,[])])),(16,([0,1,3,7,0,16,48,112,0,256,768,1792,4080,8191,16383,32767],[(0,[]),(1,[]),(2,[]),(3,[]),(4,[]),(5,[]),(6,[]),(7,[]),(8,[]),(9,[]),(10,[]),(11,[]),(12,[]),(13,[]),(14,[]),(15,[])]))] false) Tryz.f193=some ir193:=by kernel_rfl
def ir198:IFn:=⟨5,[.cell 2 4 true false],
.seq (.reg [d 2 (.allocz [i0,i0,(.bool false),w0] false)])
(.seq (.reg [m 3 0,
d 4 (.bld [i0,i0,(.bool false),w0] [(0,1,(i 1)),(1,1,(t 3))]),
⟨none,none,.store (t 2) (t 4) 4⟩])
.ret)⟩
theorem tr198:trF Tryz.prog y0 Tryz.f198=some ir198:=by kernel_rfl
def ir199:IFn:=⟨24,[.tmp 6 false],
.seq (.reg [d 6 (.mv (.cst (.vec [] .full)))])
(.seq (.reg [m 10 0,
m 11 1,
m 12 2,
m 13 0,
k 14 64 [t 13,w 0],
m 15 0,
d 16 (.mkF (.func 212) [t 15] []),
k 17 211 [t 10,t 11,t 12,t 14,t 16],
m 9 17,
d 18 (.ext (t 9) 0),
d 19 (.ext (t 9) 1),
m 7 18,
m 8 19])
(.seq (.reg [m 20 7,
m 21 8,
d 22 (.bsl 1 1 false [i0] [(0,1,(t 21))]),
d 23 (.app (t 20) (t 22) 1 8 false false),
m 6 23])
.ret))⟩
theorem tr199:trF Tryz.prog y0 Tryz.f199=some ir199:=by kernel_rfl
def ir200:IFn:=⟨43,[.tmp 6 false],
.seq (.reg [d 6 (.mv (.cst (.vec [] .full)))])
(.seq (.reg [m 13 0,
m 14 1,
m 15 2,
m 16 0,
k 17 64 [t 16,w 0],
m 18 0,
d 19 (.mkF (.func 213) [t 18] []),
k 20 211 [t 13,t 14,t 15,t 17,t 19],
m 12 20,
d 21 (.ext (t 12) 0),
d 22 (.ext (t 12) 1),
m 7 21,
m 8 22])
(.seq (.reg [m 23 0,
m 24 8,
k 25 153 [t 23,t 24],
m 9 25])
(.seq (.reg [d 10 (.mv (.cst (.vec [] .full)))])
(.seq (.seq (.reg [m 26 1,
d 27 (.len .i (t 26)),
d 28 (.mv (i 0))])
(.block 0
(.loop [0,7,9,10,27,28]
(.seq (.reg [b 29 .lss (t 28) (t 27)])
(.seq (.cond (t 29)
.skip
(.brk 0))
(.seq (.block 1
(.seq (.reg [m 30 28,
m 11 30])
(.reg [m 31 10,
m 32 0,
m 33 7,
m 34 11,
d 35 (.idxS (t 33) (t 34) 1),
l 36 35,
m 37 9,
k 38 206 [t 32,t 36,t 37],
d 39 (.bsl 1 1 false [i0] [(0,1,(t 38))]),
d 40 (.app (t 31) (t 39) 1 8 false false),
m 10 40])))
(.reg [b 41 .add (t 28) (i 1),
m 28 41])))))))
(.seq (.reg [m 42 10,
m 6 42])
.ret)))))⟩
theorem tr200:trF Tryz.prog (y [] [] [[0,7,9,10,27,28]] [] false) Tryz.f200=some ir200:=by kernel_rfl
def ir201:IFn:=⟨76,[.tmp 6 false],
.seq (.reg [d 6 (.mv (.cst (.vec [] .full)))])
(.seq (.reg [d 7 (.mv (.cst (.vec [] .full)))])
(.seq (.seq (.reg [m 14 2,
d 15 (.len .i (t 14)),
d 16 (.mv (i 0))])
(.block 0
(.loop [0,1,2,7,14,15,16]
(.seq (.reg [b 17 .lss (t 16) (t 15)])
(.seq (.cond (t 17)
.skip
(.brk 0))
(.seq (.block 1
(.seq (.reg [m 18 16,
d 19 (.idxS (t 14) (t 16) 1),
l 20 19,
m 8 18,
m 9 20])
(.seq (.reg [d 10 (.mv (.cst (.vec [] .full)))])
(.seq (.seq (.reg [m 21 1,
d 22 (.len .i (t 21)),
d 23 (.mv (i 0))])
(.block 2
(.loop [0,1,2,7,8,9,10,14,15,16,21,22,23]
(.seq (.reg [b 24 .lss (t 23) (t 22)])
(.seq (.cond (t 24)
.skip
(.brk 2))
(.seq (.block 3
(.seq (.reg [d 25 (.idxS (t 21) (t 23) 1),
l 26 25,
m 12 26])
(.reg [m 27 10,
m 28 0,
m 29 12,
m 30 9,
k 31 206 [t 28,t 29,t 30],
d 32 (.bsl 1 1 false [i0] [(0,1,(t 31))]),
d 33 (.app (t 27) (t 32) 1 8 false false),
m 10 33])))
(.reg [b 34 .add (t 23) (i 1),
m 23 34])))))))
(.seq (.seq (.reg [m 35 8,
b 36 .eql (t 35) (i 0)])
(.cond (t 36)
(.seq (.reg [m 37 10,
m 7 37])
(.brk 1))
.skip))
(.seq (.block 4
(.loop [0,1,2,7,8,10,14,15,16]
(.seq (.seq (.reg [m 38 7,
d 39 (.len .i (t 38)),
m 40 8,
b 41 .lss (t 39) (t 40)])
(.cond (t 41)
.skip
(.brk 4)))
(.block 5
(.reg [m 42 7,
m 43 0,
k 44 64 [t 43,w 0],
d 45 (.bsl 1 1 false [i0] [(0,1,(t 44))]),
d 46 (.app (t 42) (t 45) 1 8 false false),
m 7 46])))))
(.draw [(m 47 7,0,[]),
(m 48 8,1,[]),
(d 49 (.slc (t 47) none (some (t 48)) none 1),2,[]),
(m 51 0,4,[]),
(m 52 7,5,[]),
(m 53 8,6,[]),
(d 54 (.slc (t 52) (some (t 53)) none none 1),7,[]),
(m 55 10,8,[]),
(k 50 102 [t 49],3,[]),
(k 56 199 [t 51,t 54,t 55],9,[]),
(d 57 (.app (t 50) (t 56) 1 8 false false),10,[]),
(m 7 57,11,[])])))))))
(.reg [b 58 .add (t 16) (i 1),
m 16 58])))))))
(.seq (.reg [m 59 1,
d 60 (.len .i (t 59)),
m 61 2,
d 62 (.len .i (t 61)),
b 63 .add (t 60) (t 62),
m 13 63])
(.seq (.block 6
(.loop [0,7,13]
(.seq (.seq (.reg [m 64 7,
d 65 (.len .i (t 64)),
m 66 13,
b 67 .lss (t 65) (t 66)])
(.cond (t 67)
.skip
(.brk 6)))
(.block 7
(.reg [m 68 7,
m 69 0,
k 70 64 [t 69,w 0],
d 71 (.bsl 1 1 false [i0] [(0,1,(t 70))]),
d 72 (.app (t 68) (t 71) 1 8 false false),
m 7 72])))))
(.seq (.reg [m 73 7,
m 74 13,
d 75 (.slc (t 73) none (some (t 74)) none 1),
m 6 75])
.ret)))))⟩
theorem tr201:trF Tryz.prog (y [] [] [[0,1,2,7,14,15,16],[0,1,2,7,8,9,10,14,15,16,21,22,23],[0,1,2,7,8,10,14,15,16],[0,7,13]] [(15,([0,0,3,7,0,0,0,96,0,511,1023,2047],[(0,[]),(1,[]),(2,[]),(4,[]),(5,[]),(6,[]),(7,[]),(8,[]),(3,[]),(9,[]),(10,[]),(11,[])]))] false) Tryz.f201=some ir201:=by kernel_rfl
def ir202:IFn:=⟨21,[.tmp 6 false],
.seq (.reg [d 6 (.mv (i 0))])
(.seq (.reg [m 10 0,
m 11 1,
m 12 2,
m 13 0,
k 14 64 [t 13,w 0],
m 15 0,
d 16 (.mkF (.func 214) [t 15] []),
k 17 211 [t 10,t 11,t 12,t 14,t 16],
m 9 17,
d 18 (.ext (t 9) 0),
d 19 (.ext (t 9) 1),
m 7 18,
m 8 19])
(.seq (.reg [m 20 8,
m 6 20])
.ret))⟩
theorem tr202:trF Tryz.prog y0 Tryz.f202=some ir202:=by kernel_rfl
def ir203:IFn:=⟨21,[.tmp 6 false],
.seq (.reg [d 6 (.mv (i 0))])
(.seq (.reg [m 10 0,
m 11 1,
m 12 2,
m 13 0,
k 14 64 [t 13,w 1],
m 15 0,
d 16 (.mkF (.func 215) [t 15] []),
k 17 211 [t 10,t 11,t 12,t 14,t 16],
m 9 17,
d 18 (.ext (t 9) 0),
d 19 (.ext (t 9) 1),
m 7 18,
m 8 19])
(.seq (.reg [m 20 8,
m 6 20])
.ret))⟩
theorem tr203:trF Tryz.prog y0 Tryz.f203=some ir203:=by kernel_rfl
def ir204:IFn:=⟨11,[.tmp 6 false],
.seq (.reg [d 6 (.mv (i 0))])
(.seq (.reg [m 7 0,
m 8 1,
m 9 2,
k 10 206 [t 7,t 8,t 9],
m 6 10])
.ret)⟩
theorem tr204:trF Tryz.prog y0 Tryz.f204=some ir204:=by kernel_rfl
def ir205:IFn:=⟨17,[.tmp 6 false],
.seq (.reg [d 6 (.mv (i 0))])
(.seq (.reg [m 7 0,
m 8 0,
m 9 1,
m 10 2,
k 11 190 [t 8,t 9,t 10],
m 12 0,
m 13 1,
m 14 2,
k 15 206 [t 12,t 13,t 14],
k 16 187 [t 7,t 11,t 15],
m 6 16])
.ret)⟩
theorem tr205:trF Tryz.prog y0 Tryz.f205=some ir205:=by kernel_rfl
def ir206:IFn:=⟨12,[.tmp 6 false],
.seq (.reg [d 6 (.mv (i 0))])
(.seq (.reg [m 7 0,
m 8 1,
m 9 2,
d 10 (.bld [i0,i0,i0,i0,w0] [(0,1,(i 6)),(2,1,(t 8)),(3,1,(t 9))]),
k 11 99 [t 7,t 10],
m 6 11])
.ret)⟩
theorem tr206:trF Tryz.prog y0 Tryz.f206=some ir206:=by kernel_rfl
def ir207:IFn:=⟨48,[.tmp 6 false],
.seq (.reg [d 6 (.mv (w 0))])
(.seq (.reg [m 11 0,
k 12 216 [t 11],
m 7 12])
(.seq (.block 0
(.loop [0,1,2,7]
(.seq (.seq (.reg [m 13 1,
b 14 .neq (t 13) (w 0),
m 15 14,
⟨some 16,some (15,false),.mv (t 2)⟩,
⟨some 17,some (15,false),.mv (t 0)⟩,
⟨some 18,some (15,false),.bin .gtr .plain (t 16) (t 17)⟩,
d 19 (.pick (t 15) (.cst (.bool true)) (t 18))])
(.cond (t 19)
.skip
(.brk 0)))
(.block 1
(.seq (.reg [m 20 2,
m 21 0,
b 22 .and (t 20) (t 21),
m 8 22])
(.seq (.reg [m 23 2,
m 24 7,
b 25 .shr (t 23) (t 24),
m 26 1,
m 27 7,
b 28 .sub (w 64) (t 27),
b 29 .shl (t 26) (t 28),
b 30 .or (t 25) (t 29),
m 31 1,
m 32 7,
b 33 .shr (t 31) (t 32),
m 2 30,
m 1 33])
(.seq (.reg [m 35 2,
m 36 8,
d 37 (.add64 (t 35) (t 36) (w 0)),
m 34 37,
d 38 (.ext (t 34) 0),
d 39 (.ext (t 34) 1),
m 9 38,
m 10 39])
(.reg [m 40 9,
m 41 1,
m 42 10,
b 43 .add (t 41) (t 42),
m 2 40,
m 1 43]))))))))
(.seq (.seq (.reg [m 44 2,
m 45 0,
b 46 .eql (t 44) (t 45)])
(.cond (t 46)
(.seq (.reg [d 6 (.mv (w 0))])
.ret)
.skip))
(.seq (.reg [m 47 2,
m 6 47])
.ret))))⟩
theorem tr207:trF Tryz.prog (y [] [] [[0,1,2,7]] [] false) Tryz.f207=some ir207:=by kernel_rfl
def ir208:IFn:=⟨70,[.cell 4 4 true false,.tmp 5 false],
.seq (.reg [d 4 (.allocz [i0,i0,(.bool false),w0] false),
d 5 (.mv (i 0))])
(.seq (.reg [m 7 0,
d 8 (.nilc (t 7)),
q 9 8 4,
l 10 9,
m 11 1,
k 12 161 [t 10,t 11],
m 6 12])
(.seq (.seq (.reg [m 13 6,
b 14 .geq (t 13) (i 0)])
(.cond (t 14)
(.seq (.reg [m 15 0,
d 16 (.nilc (t 15)),
q 17 16 4,
l 18 17,
m 19 6,
d 20 (.idxS (t 18) (t 19) 5),
q 21 20 1,
d 22 (.load (t 21) 4 true),
⟨none,none,.store (t 4) (t 22) 4⟩,
d 5 (.mv (i 0))])
.ret)
.skip))
(.seq (.reg [m 23 0,
d 24 (.nilc (t 23)),
q 25 24 3,
l 26 25,
m 27 1,
k 28 161 [t 26,t 27],
m 6 28])
(.seq (.seq (.reg [m 29 6,
b 30 .geq (t 29) (i 0)])
(.cond (t 30)
(.seq (.reg [m 31 0,
d 32 (.nilc (t 31)),
q 33 32 3,
l 34 33,
m 35 6,
d 36 (.idxS (t 34) (t 35) 5),
q 37 36 1,
d 38 (.load (t 37) 4 true),
⟨none,none,.store (t 4) (t 38) 4⟩,
d 5 (.mv (i 0))])
.ret)
.skip))
(.seq (.reg [m 39 0,
d 40 (.nilc (t 39)),
q 41 40 0,
d 42 (.load (t 41) 3 true),
m 43 1,
k 44 160 [t 42,t 43],
m 6 44])
(.seq (.seq (.reg [m 45 6,
b 46 .geq (t 45) (i 0),
m 47 46,
⟨some 48,some (47,true),.mv (t 0)⟩,
⟨some 49,some (47,true),.nilc (t 48)⟩,
⟨some 50,some (47,true),.fad (t 49) 0⟩,
⟨some 51,some (47,true),.fad (t 50) 0⟩,
⟨some 52,some (47,true),.load (t 51) 1 false⟩,
⟨some 53,some (47,true),.mv (t 6)⟩,
⟨some 54,some (47,true),.idxS (t 52) (t 53) 4⟩,
⟨some 55,some (47,true),.fad (t 54) 3⟩,
⟨some 56,some (47,true),.load (t 55) 1 false⟩,
⟨some 57,some (47,true),.bin .eql .plain (t 56) (i 0)⟩,
d 58 (.pick (t 47) (t 57) (.cst (.bool false)))])
(.cond (t 58)
(.seq (.reg [m 59 0,
d 60 (.nilc (t 59)),
q 61 60 0,
q 62 61 0,
l 63 62,
m 64 6,
d 65 (.idxS (t 63) (t 64) 4),
q 66 65 2,
l 67 66,
k 68 218 [t 67],
⟨none,none,.store (t 4) (t 68) 4⟩,
d 5 (.mv (i 0))])
.ret)
.skip))
(.seq (.reg [d 69 (.bld [i0,i0,(.bool false),w0] []),
⟨none,none,.store (t 4) (t 69) 4⟩,
d 5 (.mv (i 4))])
.ret)))))))⟩
theorem tr208:trF Tryz.prog y0 Tryz.f208=some ir208:=by kernel_rfl
def ir209:IFn:=⟨97,[.cell 6 4 true false,.tmp 7 false],
.seq (.reg [d 5 (.box (t 2) false),
d 6 (.allocz [i0,i0,(.bool false),w0] false),
d 7 (.mv (i 0))])
(.seq (.draw [(m 14 0,0,[]),
(d 15 (.nilc (t 14)),1,[]),
(q 16 15 0,2,[]),
(d 17 (.load (t 16) 3 true),3,[]),
(m 18 1,4,[]),
(m 20 0,6,[]),
(d 21 (.nilc (t 20)),7,[]),
(q 22 21 0,8,[]),
(d 23 (.load (t 22) 3 true),9,[]),
(m 24 1,10,[]),
(k 19 160 [t 17,t 18],5,[8]),
(k 25 134 [t 23,t 24],11,[]),
(m 8 19,12,[]),
(m 9 25,13,[])])
(.seq (.seq (.reg [m 26 9,
b 27 .geq (t 26) (i 0)])
(.cond (t 27)
(.seq (.draw [(d 29 (.load (t 5) 4 true),0,[]),
(m 30 0,1,[]),
(d 31 (.nilc (t 30)),2,[]),
(q 32 31 0,3,[]),
(q 33 32 1,4,[]),
(l 34 33,5,[]),
(m 35 9,6,[]),
(d 36 (.idxS (t 34) (t 35) 2),7,[]),
(q 37 36 1,8,[]),
(l 38 37,9,[]),
(k 39 135 [t 29,t 38],10,[]),
(m 28 39,11,[]),
(d 40 (.ext (t 28) 0),12,[]),
(d 41 (.ext (t 28) 1),13,[]),
(m 10 40,14,[]),
(m 11 41,15,[])])
(.seq (.seq (.reg [m 42 11,
b 43 .neq (t 42) (i 0)])
(.cond (t 43)
(.seq (.reg [d 44 (.bld [i0,i0,(.bool false),w0] []),
m 45 11,
⟨none,none,.store (t 6) (t 44) 4⟩,
m 7 45])
.ret)
.skip))
(.seq (.reg [m 46 0,
d 47 (.nilc (t 46)),
q 48 47 5,
l 49 48,
m 50 9,
d 51 (.idxS (t 49) (t 50) 1),
l 52 51,
m 53 10,
d 54 (.idxS (t 52) (t 53) 1),
l 55 54,
k 56 218 [t 55],
⟨none,none,.store (t 6) (t 56) 4⟩,
d 7 (.mv (i 0))])
.ret)))
.skip))
(.seq (.seq (.reg [m 57 8,
b 58 .lss (t 57) (i 0),
m 59 58,
⟨some 60,some (59,false),.mv (t 0)⟩,
⟨some 61,some (59,false),.nilc (t 60)⟩,
⟨some 62,some (59,false),.fad (t 61) 0⟩,
⟨some 63,some (59,false),.fad (t 62) 0⟩,
⟨some 64,some (59,false),.load (t 63) 1 false⟩,
⟨some 65,some (59,false),.mv (t 8)⟩,
⟨some 66,some (59,false),.idxS (t 64) (t 65) 4⟩,
⟨some 67,some (59,false),.fad (t 66) 3⟩,
⟨some 68,some (59,false),.load (t 67) 1 false⟩,
⟨some 69,some (59,false),.bin .eql .plain (t 68) (i 0)⟩,
d 70 (.pick (t 59) (.cst (.bool true)) (t 69))])
(.cond (t 70)
(.seq (.reg [d 71 (.bld [i0,i0,(.bool false),w0] []),
⟨none,none,.store (t 6) (t 71) 4⟩,
d 7 (.mv (i 4))])
.ret)
.skip))
(.seq (.draw [(d 73 (.load (t 5) 4 true),0,[]),
(m 74 0,1,[]),
(d 75 (.nilc (t 74)),2,[]),
(q 76 75 0,3,[]),
(q 77 76 0,4,[]),
(l 78 77,5,[]),
(m 79 8,6,[]),
(d 80 (.idxS (t 78) (t 79) 4),7,[]),
(q 81 80 3,8,[]),
(l 82 81,9,[]),
(k 83 135 [t 73,t 82],10,[]),
(m 72 83,11,[]),
(d 84 (.ext (t 72) 0),12,[]),
(d 85 (.ext (t 72) 1),13,[]),
(m 12 84,14,[]),
(m 13 85,15,[])])
(.seq (.reg [m 86 0,
d 87 (.nilc (t 86)),
q 88 87 0,
q 89 88 0,
l 90 89,
m 91 8,
d 92 (.idxS (t 90) (t 91) 4),
q 93 92 2,
l 94 93,
k 95 218 [t 94],
m 96 13,
⟨none,none,.store (t 6) (t 95) 4⟩,
m 7 96])
.ret)))))⟩
theorem tr209:trF Tryz.prog (y [] [] [] [(1,([0,1,3,7,0,31,0,64,192,448,0,2047,4095,8191],[(0,[]),(1,[]),(2,[]),(3,[]),(4,[]),(6,[]),(7,[]),(8,[]),(9,[]),(10,[]),(5,[8]),(11,[]),(12,[]),(13,[])])),(3,([0,0,2,6,14,30,0,126,254,510,1023,2047,4095,4095,8191,32767],[(0,[]),(1,[]),(2,[]),(3,[]),(4,[]),(5,[]),(6,[]),(7,[]),(8,[]),(9,[]),(10,[]),(11,[]),(12,[]),(13,[]),(14,[]),(15,[])])),(9,([0,0,2,6,14,30,0,126,254,510,1023,2047,4095,4095,8191,32767],[(0,[]),(1,[]),(2,[]),(3,[]),(4,[]),(5,[]),(6,[]),(7,[]),(8,[]),(9,[]),(10,[]),(11,[]),(12,[]),(13,[]),(14,[]),(15,[])]))] false) Tryz.f209=some ir209:=by kernel_rfl
def ir210:IFn:=⟨98,[.cell 6 4 true false,.tmp 7 false],
.seq (.reg [d 4 (.box (t 1) false),
d 5 (.box (t 2) false),
d 6 (.allocz [i0,i0,(.bool false),w0] false),
d 7 (.mv (i 0))])
(.seq (.reg [m 10 0,
b 11 .eql (t 10) (i 6),
m 12 11,
⟨some 13,some (12,false),.mv (t 0)⟩,
⟨some 14,some (12,false),.bin .eql .plain (t 13) (i 7)⟩,
d 15 (.pick (t 12) (.cst (.bool true)) (t 14)),
m 8 15])
(.seq (.seq (.reg [m 16 8,
q 17 4 0,
l 18 17,
b 19 .eql (t 18) (i 2),
d 20 (.bin .neq .bool (t 16) (t 19)),
m 21 20,
⟨some 22,some (21,false),.mv (t 8)⟩,
⟨some 23,some (21,false),.fad (t 5) 0⟩,
⟨some 24,some (21,false),.load (t 23) 1 false⟩,
⟨some 25,some (21,false),.bin .eql .plain (t 24) (i 2)⟩,
⟨some 26,some (21,false),.bin .neq .bool (t 22) (t 25)⟩,
d 27 (.pick (t 21) (.cst (.bool true)) (t 26))])
(.cond (t 27)
(.seq (.reg [d 28 (.bld [i0,i0,(.bool false),w0] []),
⟨none,none,.store (t 6) (t 28) 4⟩,
d 7 (.mv (i 5))])
.ret)
.skip))
(.seq (.reg [q 29 4 2,
l 30 29,
m 31 30,
⟨some 32,some (31,true),.fad (t 5) 2⟩,
⟨some 33,some (31,true),.load (t 32) 1 false⟩,
d 34 (.pick (t 31) (t 33) (.cst (.bool false))),
d 35 (.bld [i0,i0,(.bool false),w0] [(0,1,(i 1)),(2,1,(t 34))]),
d 9 (.allocz [i0,i0,(.bool false),w0] false),
⟨none,none,.store (t 9) (t 35) 4⟩])
(.seq (.seq (.reg [m 36 0])
(.block 0
(.seq (.reg [b 39 .eql (t 36) (i 1),
m 38 39])
(.cond (t 38)
(.reg [q 40 4 1,
l 41 40,
q 42 5 1,
l 43 42,
d 44 (.max [t 41,t 43]),
b 45 .add (t 44) (i 1),
q 46 9 1,
⟨none,none,.store (t 46) (t 45) 1⟩])
(.seq (.reg [b 48 .eql (t 36) (i 2),
m 47 48])
(.cond (t 47)
(.reg [q 49 4 1,
l 50 49,
q 51 9 1,
⟨none,none,.store (t 51) (t 50) 1⟩])
(.seq (.reg [b 53 .eql (t 36) (i 3),
m 52 53])
(.cond (t 52)
(.reg [q 54 4 1,
l 55 54,
q 56 5 1,
l 57 56,
b 58 .add (t 55) (t 57),
q 59 9 1,
⟨none,none,.store (t 59) (t 58) 1⟩])
(.seq (.reg [d 37 (.bld [i0,i0,(.bool false),w0] [(0,1,(i 2))]),
⟨none,none,.store (t 6) (t 37) 4⟩,
d 7 (.mv (i 0))])
.ret)))))))))
(.seq (.seq (.reg [q 60 9 2,
l 61 60,
m 62 61,
⟨some 63,some (62,true),.fad (t 9) 1⟩,
⟨some 64,some (62,true),.load (t 63) 1 false⟩,
⟨some 65,some (62,true),.bin .leq .plain (t 64) (i 60)⟩,
d 66 (.pick (t 62) (t 65) (.cst (.bool false)))])
(.cond (t 66)
(.block 1
(.seq (.reg [m 68 0,
b 69 .eql (t 68) (i 1),
m 67 69])
(.cond (t 67)
(.reg [q 70 4 3,
l 71 70,
q 72 5 3,
l 73 72,
b 74 .add (t 71) (t 73),
q 75 9 3,
⟨none,none,.store (t 75) (t 74) 1⟩])
(.seq (.reg [m 77 0,
b 78 .eql (t 77) (i 3),
m 76 78])
(.cond (t 76)
(.reg [q 79 4 3,
l 80 79,
q 81 5 3,
l 82 81,
b 83 .mul (t 80) (t 82),
q 84 9 3,
⟨none,none,.store (t 84) (t 83) 1⟩])
(.seq (.reg [q 86 5 3,
l 87 86,
q 88 4 3,
l 89 88,
b 90 .leq (t 87) (t 89),
m 85 90])
(.cond (t 85)
(.reg [q 91 4 3,
l 92 91,
q 93 5 3,
l 94 93,
b 95 .sub (t 92) (t 94),
q 96 9 3,
⟨none,none,.store (t 96) (t 95) 1⟩])
.skip)))))))
.skip))
(.seq (.reg [d 97 (.load (t 9) 4 true),
⟨none,none,.store (t 6) (t 97) 4⟩,
d 7 (.mv (i 0))])
.ret))))))⟩
theorem tr210:trF Tryz.prog y0 Tryz.f210=some ir210:=by kernel_rfl
def ir211:IFn:=⟨47,[.tmp 10 true,.tmp 11 true],
.seq (.reg [d 5 (.box (t 0) true),
d 10 (.mv (.cst (.vec [] .full))),
d 11 (.mv (i 0))])
(.seq (.reg [d 12 (.allocz [i0] true),
⟨none,none,.store (t 12) (.cst (.int .i64 (-1))) 1⟩])
(.seq (.reg [d 17 (.mkF (.func 219) [] [t 12,t 5]),
m 13 17])
(.seq (.reg [d 14 (.mv (.cst (.vec [] .full)))])
(.seq (.seq (.reg [m 18 1,
d 19 (.len .i (t 18)),
m 20 2,
d 21 (.len .i (t 20)),
d 22 (.max [t 19,t 21]),
d 23 (.mv (i 0))])
(.block 0
(.loop [1,2,3,4,13,14,22,23]
(.seq (.reg [b 24 .lss (t 23) (t 22)])
(.seq (.cond (t 24)
.skip
(.brk 0))
(.seq (.block 1
(.seq (.reg [m 25 23,
m 15 25])
(.seq (.reg [d 16 (.mv (i 0))])
(.seq (.reg [m 27 4,
m 28 13,
m 29 1,
m 30 15,
d 31 (.callv (t 28) [t 29,t 30]),
m 32 13,
m 33 2,
m 34 15,
d 35 (.callv (t 32) [t 33,t 34]),
m 36 3,
d 37 (.callv (t 27) [t 31,t 35,t 36]),
m 26 37,
d 38 (.ext (t 26) 0),
d 39 (.ext (t 26) 1),
m 16 38,
m 3 39])
(.reg [m 40 14,
m 41 16,
d 42 (.bsl 1 1 false [i0] [(0,1,(t 41))]),
d 43 (.app (t 40) (t 42) 1 8 false false),
m 14 43])))))
(.reg [b 44 .add (t 23) (i 1),
m 23 44])))))))
(.seq (.reg [m 45 14,
m 46 3,
m 10 45,
m 11 46])
.ret)))))⟩
theorem tr211:trF Tryz.prog (y [5,12] [] [[1,2,3,4,13,14,22,23]] [] true) Tryz.f211=some ir211:=by kernel_rfl
def ir212:IFn:=⟨35,[.tmp 8 false,.tmp 9 false],
.seq (.reg [d 8 (.mv (i 0)),
d 9 (.mv (i 0))])
(.seq (.reg [m 13 0,
m 14 1,
m 15 2,
k 16 206 [t 13,t 14,t 15],
m 10 16])
(.seq (.reg [m 17 0,
m 18 1,
m 19 2,
m 20 10,
k 21 220 [t 17,t 18,t 19,t 20],
m 11 21])
(.seq (.reg [m 22 0,
m 23 11,
m 24 3,
k 25 206 [t 22,t 23,t 24],
m 12 25])
(.seq (.reg [m 26 0,
m 27 11,
m 28 3,
m 29 12,
k 30 220 [t 26,t 27,t 28,t 29],
m 31 0,
m 32 10,
m 33 12,
k 34 190 [t 31,t 32,t 33],
m 8 30,
m 9 34])
.ret))))⟩
theorem tr212:trF Tryz.prog y0 Tryz.f212=some ir212:=by kernel_rfl
def ir213:IFn:=⟨41,[.tmp 8 false,.tmp 9 false],
.seq (.reg [d 8 (.mv (i 0)),
d 9 (.mv (i 0))])
(.seq (.reg [m 13 0,
m 14 1,
m 15 2,
k 16 206 [t 13,t 14,t 15],
m 10 16])
(.seq (.reg [m 17 0,
m 18 1,
m 19 2,
m 20 10,
k 21 220 [t 17,t 18,t 19,t 20],
m 11 21])
(.seq (.reg [m 22 0,
m 23 11,
m 24 3,
k 25 206 [t 22,t 23,t 24],
m 12 25])
(.seq (.reg [m 26 0,
m 27 11,
m 28 3,
m 29 12,
k 30 220 [t 26,t 27,t 28,t 29],
m 31 0,
m 32 0,
m 33 2,
m 34 10,
k 35 187 [t 32,t 33,t 34],
m 36 0,
m 37 3,
m 38 12,
k 39 187 [t 36,t 37,t 38],
k 40 190 [t 31,t 35,t 39],
m 8 30,
m 9 40])
.ret))))⟩
theorem tr213:trF Tryz.prog y0 Tryz.f213=some ir213:=by kernel_rfl
def ir214:IFn:=⟨21,[.tmp 8 false,.tmp 9 false],
.seq (.reg [d 8 (.mv (i 0)),
d 9 (.mv (i 0))])
(.seq (.reg [m 11 0,
m 12 1,
m 13 2,
k 14 221 [t 11,t 12,t 13],
m 10 14])
(.seq (.reg [m 15 10,
m 16 0,
m 17 10,
m 18 2,
m 19 3,
k 20 186 [t 16,t 17,t 18,t 19],
m 8 15,
m 9 20])
.ret))⟩
theorem tr214:trF Tryz.prog y0 Tryz.f214=some ir214:=by kernel_rfl
def ir215:IFn:=⟨22,[.tmp 8 false,.tmp 9 false],
.seq (.reg [d 8 (.mv (i 0)),
d 9 (.mv (i 0))])
(.seq (.reg [m 11 0,
m 12 1,
m 13 2,
k 14 221 [t 11,t 12,t 13],
m 10 14])
(.seq (.reg [m 15 10,
m 16 0,
m 17 3,
m 18 0,
m 19 10,
k 20 153 [t 18,t 19],
k 21 206 [t 16,t 17,t 20],
m 8 15,
m 9 21])
.ret))⟩
theorem tr215:trF Tryz.prog y0 Tryz.f215=some ir215:=by kernel_rfl
def ir216:IFn:=⟨6,[.tmp 2 false],
.seq (.reg [d 2 (.mv (w 0))])
(.seq (.reg [m 3 0,
k 4 104 [t 3],
d 5 (.cvI .u64 (t 4)),
m 2 5])
.ret)⟩
theorem tr216:trF Tryz.prog y0 Tryz.f216=some ir216:=by kernel_rfl
def ir218:IFn:=⟨5,[.cell 2 4 true false],
.seq (.reg [d 2 (.allocz [i0,i0,(.bool false),w0] false)])
(.seq (.reg [m 3 0,
d 4 (.bld [i0,i0,(.bool false),w0] [(0,1,(i 1)),(1,1,(t 3))]),
⟨none,none,.store (t 2) (t 4) 4⟩])
.ret)⟩
theorem tr218:trF Tryz.prog y0 Tryz.f218=some ir218:=by kernel_rfl
def ir219:IFn:=⟨20,[.tmp 6 false],
.seq (.reg [d 6 (.mv (i 0))])
(.seq (.seq (.reg [m 7 1,
m 8 0,
d 9 (.len .i (t 8)),
b 10 .lss (t 7) (t 9)])
(.cond (t 10)
(.seq (.reg [m 11 0,
m 12 1,
d 13 (.idxS (t 11) (t 12) 1),
l 14 13,
m 6 14])
.ret)
.skip))
(.seq (.seq (.reg [l 15 2,
b 16 .lss (t 15) (i 0)])
(.cond (t 16)
(.reg [l 17 3,
k 18 64 [t 17,w 0],
⟨none,none,.store (t 2) (t 18) 1⟩])
.skip))
(.seq (.reg [l 19 2,
m 6 19])
.ret)))⟩
theorem tr219:trF Tryz.prog y0 Tryz.f219=some ir219:=by kernel_rfl
def ir220:IFn:=⟨23,[.tmp 8 false],
.seq (.reg [d 8 (.mv (i 0))])
(.seq (.draw [(m 9 0,0,[]),
(m 10 0,1,[]),
(m 11 1,2,[]),
(m 12 2,3,[]),
(m 14 0,5,[]),
(m 15 0,6,[]),
(d 16 (.nilc (t 15)),7,[]),
(q 17 16 0,8,[]),
(l 18 17,9,[]),
(m 20 3,11,[]),
(k 13 190 [t 10,t 11,t 12],4,[8]),
(k 19 222 [t 18,w 2],10,[]),
(k 21 191 [t 14,t 19,t 20],12,[]),
(k 22 187 [t 9,t 13,t 21],13,[]),
(m 8 22,14,[])])
.ret)⟩
theorem tr220:trF Tryz.prog (y [] [] [] [(1,([0,0,0,0,14,0,0,64,192,448,990,0,4094,8191,16383],[(0,[]),(1,[]),(2,[]),(3,[]),(5,[]),(6,[]),(7,[]),(8,[]),(9,[]),(11,[]),(4,[8]),(10,[]),(12,[]),(13,[]),(14,[])]))] false) Tryz.f220=some ir220:=by kernel_rfl
def ir221:IFn:=⟨15,[.tmp 6 false],
.seq (.reg [d 6 (.mv (i 0))])
(.seq (.reg [m 7 0,
m 8 1,
m 9 2,
m 10 0,
m 11 1,
m 12 2,
k 13 206 [t 10,t 11,t 12],
k 14 220 [t 7,t 8,t 9,t 13],
m 6 14])
.ret)⟩
theorem tr221:trF Tryz.prog y0 Tryz.f221=some ir221:=by kernel_rfl
def ir222:IFn:=⟨8,[.tmp 4 false],
.seq (.reg [d 4 (.mv (w 0))])
(.seq (.reg [m 5 0,
m 6 1,
k 7 207 [t 5,w 0,t 6],
m 4 7])
.ret)⟩
theorem tr222:trF Tryz.prog y0 Tryz.f222=some ir222:=by kernel_rfl
end Go.Ab.YtihjhelbdbeokaaGreatDoor
