/- Part of a proof:  -/
import Derived.Test.YtljoifdccjcidaaDoorR3
import Derived.Test.YtljoifdccjcidaaDoorProg
import Derived.KernelRfl
set_option maxRecDepth 100000
namespace Go.Ab.YtljoifdccjcidaaDoor
def Zik:List (Nat × List V):=[(0,[.int .i64 2,.int .i64 0,.bool false,.int .u64 0])]
def bytes0:ByteArray:=⟨#[0,1,2,2,3,3,3,3,4,4,4,4,4,4,4,4,5,5,5,5,5,5,5,5,5,5,5,5,5,5,5,5,6,6,6,6,6,6,6,6,6,6,6,6,6,6,6,6,6,6,6,6,6,6,6,6,6,6,6,6,6,6,6,6,7,7,7,7,7,7,7,7,7,7,7,7,7,7,7,7,7,7,7,7,7,7,7,7,7,7,7,7,7,7,7,7,7,7,7,7,7,7,7,7,7,7,7,7,7,7,7,7,7,7,7,7,7,7,7,7,7,7,7,7,7,7,7,7,8,8,8,8,8,8,8,8,8,8,8,8,8,8,8,8,8,8,8,8,8,8,8,8,8,8,8,8,8,8,8,8,8,8,8,8,8,8,8,8,8,8,8,8,8,8,8,8,8,8,8,8,8,8,8,8,8,8,8,8,8,8,8,8,8,8,8,8,8,8,8,8,8,8,8,8,8,8,8,8,8,8,8,8,8,8,8,8,8,8,8,8,8,8,8,8,8,8,8,8,8,8,8,8,8,8,8,8,8,8,8,8,8,8,8,8,8,8,8,8,8,8,8,8,8,8,8,8]⟩
namespace Z
abbrev t (n:Nat):Arg:=.tmp n
abbrev i (n:Int):Arg:=.cst (.int .i64 n)
abbrev w (n:Int):Arg:=.cst (.int .u64 n)
abbrev d (n:Nat) (k:K):IOp:=⟨some n,none,k⟩
abbrev m (n a:Nat):IOp:=⟨some n,none,.mv (.tmp a)⟩
abbrev l (n a:Nat):IOp:=⟨some n,none,.load (.tmp a) 1 false⟩
abbrev q (n a b:Nat):IOp:=⟨some n,none,.fad (.tmp a) b⟩
abbrev k (n f:Nat) (x:List Arg):IOp:=⟨some n,none,.call f x⟩
abbrev b (n:Nat) (o:BinOp) (x y:Arg):IOp:=⟨some n,none,.bin o .plain x y⟩
abbrev v0:V:=.vec [] .any
abbrev s0:V:=.str ⟨#[]⟩
abbrev i0:V:=.int .i64 0
abbrev w0:V:=.int .u64 0
abbrev h (o b:List Nat) (l:List (List Nat)) (d:List (Nat×List Nat×List (Nat×List Nat))) (f:Bool):Hints:=⟨o,b,l,d,Zik,f⟩
abbrev h0:Hints:=⟨[],[],[],[],Zik,false⟩
end Z
open Z
open Go.Proofs
def ir3:IFn:=⟨42,[.tmp 4 false],
.seq (.reg [d 2 (.box (t 0) false),
d 4 (.mv (.cst (.bool false)))])
(.seq (.seq (.reg [k 9 11 [],
d 10 (.un .not (t 9))])
(.cond (t 10)
(.seq (.reg [d 4 (.mv (.cst (.bool false)))])
.ret)
.skip))
(.seq (.seq (.reg [d 11 (.load (t 2) 3 true),
m 12 1,
k 13 12 [t 11,t 12,i 150],
d 14 (.un .not (t 13))])
(.cond (t 14)
(.seq (.reg [d 4 (.mv (.cst (.bool true)))])
.ret)
.skip))
(.seq (.reg [d 16 (.load (t 2) 3 true),
m 17 1,
k 18 13 [t 16,t 17],
m 15 18,
d 19 (.ext (t 15) 0),
d 20 (.ext (t 15) 1),
m 5 19,
m 6 20])
(.seq (.reg [d 22 (.load (t 2) 3 true),
m 23 1,
k 24 14 [t 22,t 23],
m 21 24,
d 25 (.ext (t 21) 0),
d 26 (.ext (t 21) 1),
m 7 25,
m 8 26])
(.seq (.reg [m 27 6,
m 28 8,
b 29 .eql (t 27) (t 28),
m 30 29,
⟨some 31,some (30,true),.mv (t 5)⟩,
⟨some 32,some (30,true),.mv (t 7)⟩,
⟨some 33,some (30,true),.call 15 [t 31,t 32]⟩,
d 34 (.pick (t 30) (t 33) (.cst (.bool false))),
m 35 34,
⟨some 36,some (35,true),.load (t 2) 3 true⟩,
⟨some 37,some (35,true),.mv (t 1)⟩,
⟨some 38,some (35,true),.call 16 [t 36,t 37]⟩,
⟨some 39,some (35,true),.mv (t 8)⟩,
⟨some 40,some (35,true),.bin .eql .plain (t 38) (t 39)⟩,
d 41 (.pick (t 35) (t 40) (.cst (.bool false))),
m 4 41])
.ret)))))⟩
theorem tr3:trF Tryd.prog h0 Tryd.f3=some ir3:=by kernel_rfl
def ir11:IFn:=⟨79,[.tmp 0 false],
.seq (.reg [d 0 (.mv (.cst (.bool false)))])
(.seq (.reg [k 10 17 [(.cst (.str ⟨#[97]⟩))],
k 11 17 [(.cst (.str ⟨#[98]⟩))],
d 1 (.allocz [i0,i0,w0,s0,(.vec [] .full)] false),
d 2 (.allocz [i0,i0,w0,s0,(.vec [] .full)] false),
⟨none,none,.store (t 1) (t 10) 5⟩,
⟨none,none,.store (t 2) (t 11) 5⟩])
(.seq (.draw [(d 12 (.load (t 1) 5 true),0,[]),
(d 13 (.load (t 2) 5 true),1,[]),
(d 15 (.load (t 2) 5 true),3,[]),
(d 16 (.load (t 1) 5 true),4,[]),
(d 18 (.load (t 1) 5 true),6,[]),
(d 19 (.load (t 2) 5 true),7,[]),
(d 3 (.bare 5),11,[]),
(k 14 18 [i 4,t 12,t 13],2,[2,3,4,5]),
(k 17 18 [i 2,t 15,t 16],5,[4,5]),
(k 20 18 [i 2,t 18,t 19],8,[]),
(d 21 (.bsl 3 5 true [i0,i0,w0,s0,v0] [(0,5,(t 14)),(5,5,(t 17)),(10,5,(t 20))]),9,[]),
(d 22 (.bld [i0,i0,w0,s0,v0] [(0,1,(i 6)),(4,1,(t 21))]),10,[]),
(⟨none,none,.store (t 3) (t 22) 5⟩,12,[])])
(.seq (.reg [d 24 (.load (t 3) 5 true),
k 25 20 [t 24],
d 26 (.bsl 1 5 true [i0,s0,v0,v0,v0] [(0,5,(t 25))]),
k 27 19 [i 4,t 26],
d 28 (.bsl 1 1 false [w0] [(0,1,(w 3))]),
d 29 (.bsl 1 1 false [w0] [(0,1,(w 9))]),
d 30 (.bsl 2 1 false [v0] [(0,1,(t 28)),(1,1,(t 29))]),
k 31 13 [t 27,t 30],
m 23 31,
d 32 (.ext (t 23) 0),
d 33 (.ext (t 23) 1),
m 4 32,
m 5 33])
(.seq (.reg [d 35 (.load (t 3) 5 true),
k 36 20 [t 35],
d 37 (.bsl 1 5 true [i0,s0,v0,v0,v0] [(0,5,(t 36))]),
k 38 19 [i 4,t 37],
d 39 (.bsl 1 1 false [w0] [(0,1,(w 3))]),
d 40 (.bsl 1 1 false [w0] [(0,1,(w 16))]),
d 41 (.bsl 2 1 false [v0] [(0,1,(t 39)),(1,1,(t 40))]),
k 42 13 [t 38,t 41],
m 34 42,
d 43 (.ext (t 34) 0),
d 44 (.ext (t 34) 1),
m 6 43,
m 7 44])
(.seq (.reg [k 46 17 [(.cst (.str ⟨#[99]⟩))],
k 47 20 [t 46],
d 48 (.bsl 1 5 true [i0,s0,v0,v0,v0] [(0,5,(t 47))]),
k 49 19 [i 4,t 48],
d 50 (.bsl 1 1 false [w0] [(0,1,(w 3))]),
d 51 (.bsl 1 1 false [w0] [(0,1,(w 9))]),
d 52 (.bsl 2 1 false [v0] [(0,1,(t 50)),(1,1,(t 51))]),
k 53 13 [t 49,t 52],
m 45 53,
d 54 (.ext (t 45) 0),
d 55 (.ext (t 45) 1),
m 8 54,
m 9 55])
(.seq (.reg [m 56 5,
b 57 .eql (t 56) (i 0),
m 58 57,
⟨some 59,some (58,true),.mv (t 4)⟩,
⟨some 60,some (58,true),.bsl 1 1 false [w0] [(0,1,(w 6))]⟩,
⟨some 61,some (58,true),.call 15 [t 59,t 60]⟩,
d 62 (.pick (t 58) (t 61) (.cst (.bool false))),
m 63 62,
⟨some 64,some (63,true),.mv (t 7)⟩,
⟨some 65,some (63,true),.bin .eql .plain (t 64) (i 1)⟩,
d 66 (.pick (t 63) (t 65) (.cst (.bool false))),
m 67 66,
⟨some 68,some (67,true),.mv (t 9)⟩,
⟨some 69,some (67,true),.bin .eql .plain (t 68) (i 4)⟩,
d 70 (.pick (t 67) (t 69) (.cst (.bool false))),
m 71 70,
⟨some 72,some (71,true),.call 19 [i 4,(.cst (.vec [] .full))]⟩,
⟨some 73,some (71,true),.bsl 1 1 false [w0] [(0,1,(w 15))]⟩,
⟨some 74,some (71,true),.bsl 1 1 false [w0] [(0,1,(w 0))]⟩,
⟨some 75,some (71,true),.bsl 2 1 false [v0] [(0,1,(t 73)),(1,1,(t 74))]⟩,
⟨some 76,some (71,true),.call 16 [t 72,t 75]⟩,
⟨some 77,some (71,true),.bin .eql .plain (t 76) (i 0)⟩,
d 78 (.pick (t 71) (t 77) (.cst (.bool false))),
m 0 78])
.ret))))))⟩
theorem tr11:trF Tryd.prog (h [] [3] [] [(2,([0,0,3,0,0,31,0,0,255,511,1023,0,4095],[(0,[]),(1,[]),(3,[]),(4,[]),(6,[]),(7,[]),(11,[]),(2,[2,3,4,5]),(5,[4,5]),(8,[]),(9,[]),(10,[]),(12,[])]))] false) Tryd.f11=some ir11:=by kernel_rfl
def ir12:IFn:=⟨31,[.tmp 6 false],
.seq (.reg [d 3 (.box (t 0) false),
d 6 (.mv (.cst (.bool false)))])
(.seq (.seq (.reg [m 8 1,
d 9 (.len .i (t 8)),
b 10 .gtr (t 9) (i 20),
m 11 10,
⟨some 12,some (11,false),.load (t 3) 3 true⟩,
⟨some 13,some (11,false),.mv (t 2)⟩,
⟨some 14,some (11,false),.call 26 [t 12,t 13]⟩,
⟨some 15,some (11,false),.un .not (t 14)⟩,
d 16 (.pick (t 11) (.cst (.bool true)) (t 15))])
(.cond (t 16)
(.seq (.reg [d 6 (.mv (.cst (.bool false)))])
.ret)
.skip))
(.seq (.seq (.reg [d 7 (.mv (i 0))])
(.block 0
(.loop [1,3,7]
(.seq (.seq (.reg [m 17 7,
m 18 1,
d 19 (.len .i (t 18)),
b 20 .lss (t 17) (t 19)])
(.cond (t 20)
.skip
(.brk 0)))
(.seq (.block 1
(.seq (.reg [m 23 1,
m 24 7,
d 25 (.idxS (t 23) (t 24) 1),
l 26 25,
d 27 (.len .i (t 26)),
b 28 .gtr (t 27) (i 200)])
(.cond (t 28)
(.seq (.reg [d 6 (.mv (.cst (.bool false)))])
.ret)
.skip)))
(.reg [m 21 7,
b 22 .add (t 21) (i 1),
m 7 22]))))))
(.seq (.reg [d 29 (.load (t 3) 3 true),
k 30 27 [t 29],
m 6 30])
.ret)))⟩
theorem tr12:trF Tryd.prog (h [] [] [[1,3,7]] [] false) Tryd.f12=some ir12:=by kernel_rfl
def ir13:IFn:=⟨109,[.tmp 4 false,.tmp 5 false],
.seq (.reg [d 2 (.box (t 0) false),
d 4 (.mv (.cst (.vec [] .full))),
d 5 (.mv (i 0))])
(.seq (.seq (.reg [d 15 (.load (t 2) 3 true),
m 16 1,
k 17 16 [t 15,t 16],
m 6 17])
(.seq (.reg [m 18 6,
b 19 .neq (t 18) (i 0)])
(.cond (t 19)
(.seq (.reg [m 20 6,
d 4 (.mv (.cst (.vec [] .full))),
m 5 20])
.ret)
.skip)))
(.seq (.reg [d 21 (.mkM),
m 7 21])
(.seq (.reg [d 22 (.mkM),
d 23 (.bld [.nilmap,.nilmap,(.vec [] .full)] [(1,1,(t 22))]),
d 24 (.box (t 23) true),
m 8 24])
(.seq (.reg [m 25 1,
d 26 (.len .i (t 25)),
d 27 (.mks (t 26) (t 26) 1 8 false [i0] true),
m 9 27])
(.seq (.seq (.reg [q 28 2 0,
l 29 28,
d 30 (.len .i (t 29)),
d 31 (.mv (i 0))])
(.block 0
(.loop [1,2,7,8,9,29,30,31]
(.seq (.reg [b 32 .lss (t 31) (t 30)])
(.seq (.cond (t 32)
.skip
(.brk 0))
(.seq (.block 1
(.seq (.reg [d 33 (.idxS (t 29) (t 31) 4),
d 34 (.load (t 33) 4 true),
d 11 (.allocz [s0,i0,i0,i0] false),
⟨none,none,.store (t 11) (t 34) 4⟩])
(.seq (.draw [(m 35 1,0,[]),
(q 36 11 1,1,[]),
(l 37 36,2,[]),
(b 38 .sub (t 37) (i 1),3,[]),
(d 39 (.idxS (t 35) (t 38) 1),4,[]),
(l 40 39,5,[]),
(m 41 9,6,[]),
(q 42 11 1,7,[]),
(l 43 42,8,[]),
(b 44 .sub (t 43) (i 1),9,[]),
(d 45 (.idxS (t 41) (t 44) 1),10,[]),
(l 46 45,11,[]),
(d 47 (.slc (t 40) (some (t 46)) none none 1),12,[]),
(m 12 47,13,[])])
(.seq (.draw [(m 48 9,0,[]),
(q 49 11 1,1,[]),
(l 50 49,2,[]),
(b 51 .sub (t 50) (i 1),3,[]),
(d 52 (.idxS (t 48) (t 51) 1),4,[]),
(l 53 52,5,[]),
(d 54 (.load (t 11) 4 true),6,[]),
(k 55 28 [t 54],7,[2,5]),
(b 56 .add (t 53) (t 55),8,[]),
(d 57 (.idxS (t 48) (t 51) 1),9,[]),
(⟨none,none,.store (t 57) (t 56) 1⟩,10,[])])
(.seq (.reg [q 58 11 3,
l 59 58,
b 60 .eql (t 59) (i 0)])
(.cond (t 60)
(.draw [(m 61 7,0,[]),
(q 62 11 0,1,[]),
(l 63 62,2,[]),
(m 64 12,3,[]),
(d 65 (.idxS (t 64) (i 0) 1),4,[]),
(l 66 65,5,[]),
(⟨none,none,.mup .s (t 61) (t 63) (t 66)⟩,6,[])])
(.draw [(m 67 8,0,[]),
(d 68 (.nilc (t 67)),1,[]),
(q 69 68 1,2,[]),
(l 70 69,3,[]),
(q 71 11 0,4,[]),
(l 72 71,5,[]),
(m 73 12,6,[]),
(q 74 11 3,7,[]),
(l 75 74,8,[]),
(d 76 (.slc (t 73) none (some (t 75)) none 1),9,[]),
(d 77 (.app (.cst (.vec [] .full)) (t 76) 1 8 false true),10,[3,5]),
(⟨none,none,.mup .s (t 70) (t 72) (t 77)⟩,11,[])])))))))
(.reg [b 78 .add (t 31) (i 1),
m 31 78])))))))
(.seq (.seq (.reg [q 79 2 1,
l 80 79,
d 81 (.len .i (t 80)),
d 82 (.mv (i 0))])
(.block 2
(.loop [2,7,8,80,81,82]
(.seq (.reg [b 83 .lss (t 82) (t 81)])
(.seq (.cond (t 83)
.skip
(.brk 2))
(.seq (.block 3
(.seq (.reg [d 84 (.idxS (t 80) (t 82) 2),
d 85 (.load (t 84) 2 true),
d 14 (.allocz [s0,i0] false),
⟨none,none,.store (t 14) (t 85) 2⟩])
(.draw [(m 86 8,0,[]),
(d 87 (.nilc (t 86)),1,[]),
(q 88 87 1,2,[]),
(l 89 88,3,[]),
(q 90 14 0,4,[]),
(l 91 90,5,[]),
(q 92 14 1,6,[]),
(l 93 92,7,[]),
(d 94 (.mks (t 93) (t 93) 1 8 false [w0] true),8,[3,5]),
(⟨none,none,.mup .s (t 89) (t 91) (t 94)⟩,9,[])])))
(.reg [b 95 .add (t 82) (i 1),
m 82 95])))))))
(.seq (.reg [m 96 8,
m 97 7,
k 98 29 [t 97],
d 99 (.nilc (t 96)),
q 100 99 0,
⟨none,none,.store (t 100) (t 98) 1⟩])
(.seq (.reg [m 101 8,
q 102 2 2,
l 103 102,
k 104 30 [t 101,t 103]])
(.seq (.reg [m 105 8,
d 106 (.nilc (t 105)),
q 107 106 2,
l 108 107,
m 4 108,
d 5 (.mv (i 0))])
.ret)))))))))⟩
theorem tr13:trF Tryd.prog (h [24,27,77,94,23] [] [[1,2,7,8,9,29,30,31],[2,7,8,80,81,82]] [(10,([0,0,2,6,15,31,0,0,128,384,960,1984,4095,8191],[(0,[]),(1,[]),(2,[]),(3,[]),(4,[]),(5,[]),(6,[]),(7,[]),(8,[]),(9,[]),(10,[]),(11,[]),(12,[]),(13,[])])),(11,([0,0,2,6,15,31,0,64,255,511,1023],[(0,[]),(1,[]),(2,[]),(3,[]),(4,[]),(5,[]),(6,[]),(7,[2,5]),(8,[]),(9,[]),(10,[])])),(13,([0,0,2,0,8,24,63],[(0,[]),(1,[]),(2,[]),(3,[]),(4,[]),(5,[]),(6,[])])),(14,([0,1,3,7,0,16,0,0,128,448,960,2047],[(0,[]),(1,[]),(2,[]),(3,[]),(4,[]),(5,[]),(6,[]),(7,[]),(8,[]),(9,[]),(10,[3,5]),(11,[])])),(19,([0,1,3,7,0,16,0,64,192,511],[(0,[]),(1,[]),(2,[]),(3,[]),(4,[]),(5,[]),(6,[]),(7,[]),(8,[3,5]),(9,[])]))] false) Tryd.f13=some ir13:=by kernel_rfl
def ir14:IFn:=⟨143,[.tmp 4 false,.tmp 5 false],
.seq (.reg [d 2 (.box (t 0) false),
d 4 (.mv (.cst (.vec [] .full))),
d 5 (.mv (i 0))])
(.seq (.reg [d 14 (.load (t 2) 3 true),
m 15 1,
k 16 31 [t 14,t 15],
m 6 16])
(.seq (.seq (.reg [m 17 6,
b 18 .neq (t 17) (i 0)])
(.cond (t 18)
(.seq (.reg [m 19 6,
d 4 (.mv (.cst (.vec [] .full))),
m 5 19])
.ret)
.skip))
(.seq (.reg [d 20 (.bld [(.vec [] .full),(.vec [] .full),(.vec [] .full),(.vec [] .full),(.vec [] .full)] []),
d 21 (.box (t 20) true),
m 7 21])
(.seq (.reg [m 22 1,
d 23 (.len .i (t 22)),
d 24 (.mks (t 23) (t 23) 1 8 false [i0] true),
m 8 24])
(.seq (.seq (.reg [d 9 (.mv (i 0))])
(.block 0
(.loop [1,2,7,8,9]
(.seq (.seq (.reg [m 25 9,
q 26 2 0,
l 27 26,
d 28 (.len .i (t 27)),
b 29 .lss (t 25) (t 28)])
(.cond (t 29)
.skip
(.brk 0)))
(.seq (.block 1
(.seq (.reg [q 32 2 0,
l 33 32,
m 34 9,
d 35 (.idxS (t 33) (t 34) 4),
d 36 (.load (t 35) 4 true),
d 10 (.allocz [s0,i0,i0,i0] false),
⟨none,none,.store (t 10) (t 36) 4⟩])
(.seq (.reg [m 37 8,
q 38 10 1,
l 39 38,
b 40 .sub (t 39) (i 1),
d 41 (.idxS (t 37) (t 40) 1),
l 42 41,
m 11 42])
(.seq (.draw [(m 43 1,0,[]),
(q 44 10 1,1,[]),
(l 45 44,2,[]),
(b 46 .sub (t 45) (i 1),3,[]),
(d 47 (.idxS (t 43) (t 46) 1),4,[]),
(l 48 47,5,[]),
(m 49 11,6,[]),
(m 50 11,7,[]),
(d 51 (.load (t 10) 4 true),8,[]),
(k 52 32 [t 51],9,[2,5]),
(b 53 .add (t 50) (t 52),10,[]),
(d 54 (.slc (t 48) (some (t 49)) (some (t 53)) none 1),11,[]),
(m 12 54,12,[])])
(.seq (.draw [(m 55 8,0,[]),
(q 56 10 1,1,[]),
(l 57 56,2,[]),
(b 58 .sub (t 57) (i 1),3,[]),
(m 59 11,4,[]),
(d 60 (.load (t 10) 4 true),5,[]),
(k 61 32 [t 60],6,[2]),
(b 62 .add (t 59) (t 61),7,[]),
(d 63 (.idxS (t 55) (t 58) 1),8,[]),
(⟨none,none,.store (t 63) (t 62) 1⟩,9,[])])
(.seq (.reg [q 64 10 3,
l 65 64,
b 66 .gtr (t 65) (i 0)])
(.cond (t 66)
(.draw [(m 67 7,0,[]),
(m 68 7,1,[]),
(m 69 7,2,[]),
(d 70 (.nilc (t 69)),3,[]),
(q 71 70 2,4,[]),
(l 72 71,5,[]),
(q 73 10 0,6,[]),
(l 74 73,7,[]),
(d 75 (.bsl 1 1 false [s0] [(0,1,(t 74))]),8,[]),
(m 77 7,10,[]),
(d 78 (.nilc (t 77)),11,[]),
(q 79 78 3,12,[]),
(l 80 79,13,[]),
(d 81 (.bsl 0 1 false [w0] []),14,[]),
(m 82 12,15,[]),
(d 76 (.app (t 72) (t 75) 1 16 false true),9,[12]),
(d 83 (.app (t 81) (t 82) 1 8 false true),16,[12]),
(d 84 (.bsl 1 1 false [v0] [(0,1,(t 83))]),17,[]),
(d 85 (.app (t 80) (t 84) 1 24 false true),18,[]),
(d 86 (.nilc (t 67)),19,[]),
(q 87 86 2,20,[]),
(⟨none,none,.store (t 87) (t 76) 1⟩,21,[]),
(d 88 (.nilc (t 68)),22,[]),
(q 89 88 3,23,[]),
(⟨none,none,.store (t 89) (t 85) 1⟩,24,[])])
(.draw [(m 90 7,0,[]),
(q 91 10 0,1,[]),
(l 92 91,2,[]),
(m 93 12,3,[]),
(d 94 (.idxS (t 93) (i 0) 1),4,[]),
(l 95 94,5,[]),
(k 96 33 [t 90,t 92,t 95],6,[])]))))))))
(.reg [m 30 9,
b 31 .add (t 30) (i 1),
m 9 31]))))))
(.seq (.seq (.reg [d 13 (.mv (i 0))])
(.block 2
(.loop [2,7,13]
(.seq (.seq (.reg [m 97 13,
q 98 2 1,
l 99 98,
d 100 (.len .i (t 99)),
b 101 .lss (t 97) (t 100)])
(.cond (t 101)
.skip
(.brk 2)))
(.seq (.block 3
(.draw2 [(m 104 7,0,[]),
(m 105 7,1,[]),
(m 106 7,2,[]),
(d 107 (.nilc (t 106)),3,[]),
(q 108 107 2,4,[]),
(l 109 108,5,[]),
(q 110 2 1,6,[]),
(l 111 110,7,[]),
(m 112 13,8,[]),
(d 113 (.idxS (t 111) (t 112) 2),9,[]),
(q 114 113 0,10,[]),
(l 115 114,11,[]),
(d 116 (.bsl 1 1 false [s0] [(0,1,(t 115))]),12,[]),
(m 118 7,14,[]),
(d 119 (.nilc (t 118)),15,[]),
(q 120 119 3,16,[]),
(l 121 120,17,[]),
(q 122 2 1,18,[]),
(l 123 122,19,[]),
(m 124 13,20,[]),
(d 125 (.idxS (t 123) (t 124) 2),21,[]),
(q 126 125 1,22,[]),
(l 127 126,23,[]),
(d 117 (.app (t 109) (t 116) 1 16 false true),13,[16,18,22]),
(d 128 (.mks (t 127) (t 127) 1 8 false [w0] true),24,[5,7,11,16]),
(d 129 (.bsl 1 1 false [v0] [(0,1,(t 128))]),25,[]),
(d 130 (.app (t 121) (t 129) 1 24 false true),26,[]),
(d 131 (.nilc (t 104)),27,[]),
(q 132 131 2,28,[]),
(⟨none,none,.store (t 132) (t 117) 1⟩,29,[]),
(d 133 (.nilc (t 105)),30,[]),
(q 134 133 3,31,[]),
(⟨none,none,.store (t 134) (t 130) 1⟩,32,[])]
[(m 104 7,0,[]),
(m 105 7,1,[]),
(m 106 7,2,[]),
(d 107 (.nilc (t 106)),3,[]),
(q 108 107 2,4,[]),
(l 109 108,5,[]),
(q 110 2 1,6,[]),
(l 111 110,7,[]),
(m 112 13,8,[]),
(d 113 (.idxS (t 111) (t 112) 2),9,[]),
(q 114 113 0,10,[]),
(l 115 114,11,[]),
(d 116 (.bsl 1 1 false [s0] [(0,1,(t 115))]),12,[]),
(m 118 7,14,[]),
(d 119 (.nilc (t 118)),15,[]),
(q 120 119 3,16,[]),
(l 121 120,17,[]),
(q 122 2 1,18,[]),
(l 123 122,19,[]),
(m 124 13,20,[]),
(d 125 (.idxS (t 123) (t 124) 2),21,[]),
(q 126 125 1,22,[]),
(l 127 126,23,[]),
(d 128 (.mks (t 127) (t 127) 1 8 false [w0] true),24,[5,7,11,16]),
(d 129 (.bsl 1 1 false [v0] [(0,1,(t 128))]),25,[]),
(d 117 (.app (t 109) (t 116) 1 16 false true),13,[16,18,22]),
(d 130 (.app (t 121) (t 129) 1 24 false true),26,[]),
(d 131 (.nilc (t 104)),27,[]),
(q 132 131 2,28,[]),
(⟨none,none,.store (t 132) (t 117) 1⟩,29,[]),
(d 133 (.nilc (t 105)),30,[]),
(q 134 133 3,31,[]),
(⟨none,none,.store (t 134) (t 130) 1⟩,32,[])]))
(.reg [m 102 13,
b 103 .add (t 102) (i 1),
m 13 103]))))))
(.seq (.reg [m 135 7,
q 136 2 2,
l 137 136,
k 138 34 [t 135,t 137]])
(.seq (.reg [m 139 7,
d 140 (.nilc (t 139)),
q 141 140 4,
l 142 141,
m 4 142,
d 5 (.mv (i 0))])
.ret))))))))⟩
theorem tr14:trF Tryd.prog (h [21,24,76,85,117,130,83,128,20] [] [[1,2,7,8,9],[2,7,13]] [(11,([0,0,2,6,15,31,0,0,0,256,896,2047,4095],[(0,[]),(1,[]),(2,[]),(3,[]),(4,[]),(5,[]),(6,[]),(7,[]),(8,[]),(9,[2,5]),(10,[]),(11,[]),(12,[])])),(12,([0,0,2,6,0,0,32,112,255,511],[(0,[]),(1,[]),(2,[]),(3,[]),(4,[]),(5,[]),(6,[2]),(7,[]),(8,[]),(9,[])])),(14,([0,0,0,4,12,28,0,64,192,508,0,1024,3072,7168,0,0,50172,115708,262140,524285,1048573,2097149,4194303,8388607,16777215],[(0,[]),(1,[]),(2,[]),(3,[]),(4,[]),(5,[]),(6,[]),(7,[]),(8,[]),(10,[]),(11,[]),(12,[]),(13,[]),(14,[]),(15,[]),(9,[12]),(16,[12]),(17,[]),(18,[]),(19,[]),(20,[]),(21,[]),(22,[]),(23,[]),(24,[])])),(15,([0,0,2,0,8,24,63],[(0,[]),(1,[]),(2,[]),(3,[]),(4,[]),(5,[]),(6,[])])),(19,([0,0,0,4,12,28,0,64,0,448,960,1984,4032,8188,0,16384,49152,114688,0,262144,0,1835008,3932160,8126464,16515072,33292288,67108860,134217725,268435453,536870909,1073741823,2147483647,4294967295],[(0,[]),(1,[]),(2,[]),(3,[]),(4,[]),(5,[]),(6,[]),(7,[]),(8,[]),(9,[]),(10,[]),(11,[]),(12,[]),(14,[]),(15,[]),(16,[]),(17,[]),(18,[]),(19,[]),(20,[]),(21,[]),(22,[]),(23,[]),(13,[16,18,22]),(24,[5,7,11,16]),(25,[]),(26,[]),(27,[]),(28,[]),(29,[]),(30,[]),(31,[]),(32,[])])),(19,([23,13,24],[(0,[]),(1,[]),(2,[]),(3,[]),(4,[]),(5,[]),(6,[]),(7,[]),(8,[]),(9,[]),(10,[]),(11,[]),(12,[]),(14,[]),(15,[]),(16,[]),(17,[]),(18,[]),(19,[]),(20,[]),(21,[]),(22,[]),(23,[]),(24,[5,7,11,16]),(25,[]),(13,[16,18,22]),(26,[]),(27,[]),(28,[]),(29,[]),(30,[]),(31,[]),(32,[])]))] false) Tryd.f14=some ir14:=by kernel_rfl
def ir15:IFn:=⟨26,[.tmp 4 false],
.seq (.reg [d 4 (.mv (.cst (.bool false)))])
(.seq (.seq (.reg [m 6 0,
d 7 (.len .i (t 6)),
m 8 1,
d 9 (.len .i (t 8)),
b 10 .neq (t 7) (t 9)])
(.cond (t 10)
(.seq (.reg [d 4 (.mv (.cst (.bool false)))])
.ret)
.skip))
(.seq (.seq (.reg [d 5 (.mv (i 0))])
(.block 0
(.loop [0,1,5]
(.seq (.seq (.reg [m 11 5,
m 12 0,
d 13 (.len .i (t 12)),
b 14 .lss (t 11) (t 13)])
(.cond (t 14)
.skip
(.brk 0)))
(.seq (.block 1
(.seq (.draw [(m 17 0,0,[]),
(m 18 5,1,[]),
(d 19 (.idxS (t 17) (t 18) 1),2,[]),
(l 20 19,3,[]),
(m 21 1,4,[]),
(m 22 5,5,[]),
(d 23 (.idxS (t 21) (t 22) 1),6,[]),
(l 24 23,7,[]),
(b 25 .neq (t 20) (t 24),8,[])])
(.cond (t 25)
(.seq (.reg [d 4 (.mv (.cst (.bool false)))])
.ret)
.skip)))
(.reg [m 15 5,
b 16 .add (t 15) (i 1),
m 5 16]))))))
(.seq (.reg [d 4 (.mv (.cst (.bool true)))])
.ret)))⟩
theorem tr15:trF Tryd.prog (h [] [] [[0,1,5]] [(6,([0,0,3,7,0,0,48,112,255],[(0,[]),(1,[]),(2,[]),(3,[]),(4,[]),(5,[]),(6,[]),(7,[]),(8,[])]))] false) Tryd.f15=some ir15:=by kernel_rfl
def ir16:IFn:=⟨15,[.tmp 4 false],
.seq (.reg [d 2 (.box (t 0) false),
d 4 (.mv (i 0))])
(.seq (.seq (.reg [d 6 (.load (t 2) 3 true),
k 7 35 [t 6],
m 5 7])
(.seq (.reg [m 8 5,
b 9 .neq (t 8) (i 0)])
(.cond (t 9)
(.seq (.reg [m 10 5,
m 4 10])
.ret)
.skip)))
(.seq (.seq (.reg [d 11 (.load (t 2) 3 true),
m 12 1,
k 13 36 [t 11,t 12],
d 14 (.un .not (t 13))])
(.cond (t 14)
(.seq (.reg [d 4 (.mv (i 1))])
.ret)
.skip))
(.seq (.reg [d 4 (.mv (i 0))])
.ret)))⟩
theorem tr16:trF Tryd.prog h0 Tryd.f16=some ir16:=by kernel_rfl
def ir17:IFn:=⟨5,[.cell 2 5 true false],
.seq (.reg [d 2 (.allocz [i0,i0,w0,s0,(.vec [] .full)] false)])
(.seq (.reg [m 3 0,
d 4 (.bld [i0,i0,w0,s0,v0] [(0,1,(i 2)),(3,1,(t 3))]),
⟨none,none,.store (t 2) (t 4) 5⟩])
.ret)⟩
theorem tr17:trF Tryd.prog h0 Tryd.f17=some ir17:=by kernel_rfl
def ir18:IFn:=⟨12,[.cell 6 5 true false],
.seq (.reg [d 4 (.box (t 1) false),
d 5 (.box (t 2) false),
d 6 (.allocz [i0,i0,w0,s0,(.vec [] .full)] false)])
(.seq (.reg [m 7 0,
d 8 (.load (t 4) 5 true),
d 9 (.load (t 5) 5 true),
d 10 (.bsl 2 5 true [i0,i0,w0,s0,v0] [(0,5,(t 8)),(5,5,(t 9))]),
d 11 (.bld [i0,i0,w0,s0,v0] [(0,1,(i 4)),(1,1,(t 7)),(4,1,(t 10))]),
⟨none,none,.store (t 6) (t 11) 5⟩])
.ret)⟩
theorem tr18:trF Tryd.prog h0 Tryd.f18=some ir18:=by kernel_rfl
def ir19:IFn:=⟨12,[.cell 4 3 true false],
.seq (.reg [d 4 (.allocz [(.vec [] .full),(.vec [] .full),(.vec [] .full)] false)])
(.seq (.reg [m 5 0,
d 6 (.bld [s0,i0,i0,i0] [(0,1,(.cst (.str ⟨#[97]⟩))),(1,1,(i 1)),(2,1,(t 5))]),
m 7 0,
d 8 (.bld [s0,i0,i0,i0] [(0,1,(.cst (.str ⟨#[98]⟩))),(1,1,(i 2)),(2,1,(t 7))]),
d 9 (.bsl 2 4 true [s0,i0,i0,i0] [(0,4,(t 6)),(4,4,(t 8))]),
m 10 1,
d 11 (.bld [v0,v0,v0] [(0,1,(t 9)),(2,1,(t 10))]),
⟨none,none,.store (t 4) (t 11) 3⟩])
.ret)⟩
theorem tr19:trF Tryd.prog h0 Tryd.f19=some ir19:=by kernel_rfl
def ir20:IFn:=⟨6,[.cell 2 5 true false],
.seq (.reg [d 1 (.box (t 0) false),
d 2 (.allocz [i0,s0,(.vec [] .full),(.vec [] .full),(.vec [] .full)] false)])
(.seq (.reg [d 3 (.load (t 1) 5 true),
d 4 (.bsl 1 5 true [i0,i0,w0,s0,v0] [(0,5,(t 3))]),
d 5 (.bld [i0,s0,v0,v0,v0] [(0,1,(i 5)),(2,1,(t 4))]),
⟨none,none,.store (t 2) (t 5) 5⟩])
.ret)⟩
theorem tr20:trF Tryd.prog h0 Tryd.f20=some ir20:=by kernel_rfl
def ir25:IFn:=⟨91,[.tmp 4 false],
.seq (.reg [d 2 (.box (t 0) false),
d 4 (.mv (.cst (.bool false)))])
(.seq (.reg [m 11 1,
d 12 (.len .i (t 11)),
d 13 (.mks (t 12) (t 12) 1 8 false [i0] true),
m 5 13])
(.seq (.seq (.reg [d 6 (.mv (i 0))])
(.block 0
(.loop [1,2,5,6]
(.seq (.seq (.reg [m 14 6,
q 15 2 0,
l 16 15,
d 17 (.len .i (t 16)),
b 18 .lss (t 14) (t 17)])
(.cond (t 18)
.skip
(.brk 0)))
(.seq (.block 1
(.seq (.reg [q 21 2 0,
l 22 21,
m 23 6,
d 24 (.idxS (t 22) (t 23) 4),
d 25 (.load (t 24) 4 true),
d 7 (.allocz [s0,i0,i0,i0] false),
⟨none,none,.store (t 7) (t 25) 4⟩])
(.seq (.seq (.reg [q 26 7 1,
l 27 26,
m 28 1,
d 29 (.len .i (t 28)),
b 30 .gtr (t 27) (t 29)])
(.cond (t 30)
(.seq (.reg [d 4 (.mv (.cst (.bool false)))])
.ret)
.skip))
(.seq (.reg [d 8 (.mv (i 0))])
(.block 2
(.loop [1,2,5,6,7,8]
(.seq (.seq (.reg [m 31 8,
d 32 (.load (t 7) 4 true),
k 33 32 [t 32],
b 34 .lss (t 31) (t 33)])
(.cond (t 34)
.skip
(.brk 2)))
(.seq (.block 3
(.seq (.reg [m 37 1,
q 38 7 1,
l 39 38,
b 40 .sub (t 39) (i 1),
d 41 (.idxS (t 37) (t 40) 1),
l 42 41,
m 9 42])
(.seq (.seq (.draw [(m 43 5,0,[]),
(q 44 7 1,1,[]),
(l 45 44,2,[]),
(b 46 .sub (t 45) (i 1),3,[]),
(d 47 (.idxS (t 43) (t 46) 1),4,[]),
(l 48 47,5,[]),
(m 49 9,6,[]),
(d 50 (.len .i (t 49)),7,[]),
(b 51 .geq (t 48) (t 50),8,[]),
(m 52 51,9,[]),
(⟨some 53,some (52,false),.mv (t 9)⟩,10,[]),
(⟨some 54,some (52,false),.mv (t 5)⟩,11,[]),
(⟨some 55,some (52,false),.fad (t 7) 1⟩,12,[]),
(⟨some 56,some (52,false),.load (t 55) 1 false⟩,13,[]),
(⟨some 57,some (52,false),.bin .sub .plain (t 56) (i 1)⟩,14,[]),
(⟨some 58,some (52,false),.idxS (t 54) (t 57) 1⟩,15,[]),
(⟨some 59,some (52,false),.load (t 58) 1 false⟩,16,[]),
(⟨some 60,some (52,false),.idxS (t 53) (t 59) 1⟩,17,[]),
(⟨some 61,some (52,false),.load (t 60) 1 false⟩,18,[]),
(⟨some 63,some (52,false),.fad (t 7) 2⟩,20,[]),
(⟨some 64,some (52,false),.load (t 63) 1 false⟩,21,[]),
(⟨some 62,some (52,false),.call 38 [t 61]⟩,19,[20]),
(⟨some 65,some (52,false),.bin .gtr .plain (t 62) (t 64)⟩,22,[]),
(d 66 (.pick (t 52) (.cst (.bool true)) (t 65)),23,[])])
(.cond (t 66)
(.seq (.reg [d 4 (.mv (.cst (.bool false)))])
.ret)
.skip))
(.reg [m 67 5,
q 68 7 1,
l 69 68,
b 70 .sub (t 69) (i 1),
d 71 (.idxS (t 67) (t 70) 1),
l 72 71,
b 73 .add (t 72) (i 1),
d 74 (.idxS (t 67) (t 70) 1),
⟨none,none,.store (t 74) (t 73) 1⟩]))))
(.reg [m 35 8,
b 36 .add (t 35) (i 1),
m 8 36])))))))))
(.reg [m 19 6,
b 20 .add (t 19) (i 1),
m 6 20]))))))
(.seq (.seq (.reg [d 10 (.mv (i 0))])
(.block 4
(.loop [1,5,10]
(.seq (.seq (.reg [m 75 10,
m 76 1,
d 77 (.len .i (t 76)),
b 78 .lss (t 75) (t 77)])
(.cond (t 78)
.skip
(.brk 4)))
(.seq (.block 5
(.seq (.draw [(m 81 5,0,[]),
(m 82 10,1,[]),
(d 83 (.idxS (t 81) (t 82) 1),2,[]),
(l 84 83,3,[]),
(m 85 1,4,[]),
(m 86 10,5,[]),
(d 87 (.idxS (t 85) (t 86) 1),6,[]),
(l 88 87,7,[]),
(d 89 (.len .i (t 88)),8,[]),
(b 90 .neq (t 84) (t 89),9,[])])
(.cond (t 90)
(.seq (.reg [d 4 (.mv (.cst (.bool false)))])
.ret)
.skip)))
(.reg [m 79 10,
b 80 .add (t 79) (i 1),
m 10 80]))))))
(.seq (.reg [d 4 (.mv (.cst (.bool true)))])
.ret))))⟩
theorem tr25:trF Tryd.prog (h [13] [] [[1,2,5,6],[1,2,5,6,7,8],[1,5,10]] [(12,([0,0,2,6,15,31,0,64,255,511,1023,1023,1023,5119,13311,31743,64511,131071,262143,524287,1023,1049599,4194303,8388607],[(0,[]),(1,[]),(2,[]),(3,[]),(4,[]),(5,[]),(6,[]),(7,[]),(8,[]),(9,[]),(10,[]),(11,[]),(12,[]),(13,[]),(14,[]),(15,[]),(16,[]),(17,[]),(18,[]),(20,[]),(21,[]),(19,[20]),(22,[]),(23,[])])),(18,([0,0,3,7,0,0,48,112,240,511],[(0,[]),(1,[]),(2,[]),(3,[]),(4,[]),(5,[]),(6,[]),(7,[]),(8,[]),(9,[])]))] false) Tryd.f25=some ir25:=by kernel_rfl
def ir26:IFn:=⟨22,[.tmp 4 false],
.seq (.reg [d 2 (.box (t 0) false),
d 4 (.mv (.cst (.bool false)))])
(.seq (.reg [q 5 2 0,
l 6 5,
d 7 (.len .i (t 6)),
b 8 .leq (t 7) (i 40),
m 9 8,
⟨some 10,some (9,true),.fad (t 2) 1⟩,
⟨some 11,some (9,true),.load (t 10) 1 false⟩,
⟨some 12,some (9,true),.len .i (t 11)⟩,
⟨some 13,some (9,true),.bin .leq .plain (t 12) (i 40)⟩,
d 14 (.pick (t 9) (t 13) (.cst (.bool false))),
m 15 14,
⟨some 16,some (15,true),.fad (t 2) 2⟩,
⟨some 17,some (15,true),.load (t 16) 1 false⟩,
⟨some 18,some (15,true),.mv (t 1)⟩,
⟨some 19,some (15,true),.call 39 [t 17,i 1,t 18]⟩,
⟨some 20,some (15,true),.bin .geq .plain (t 19) (i 0)⟩,
d 21 (.pick (t 15) (t 20) (.cst (.bool false))),
m 4 21])
.ret)⟩
theorem tr26:trF Tryd.prog h0 Tryd.f26=some ir26:=by kernel_rfl
def ir27:IFn:=⟨88,[.tmp 2 false],
.seq (.reg [d 1 (.box (t 0) false),
d 2 (.mv (.cst (.bool false)))])
(.seq (.seq (.reg [d 3 (.mv (i 0))])
(.block 0
(.loop [1,3]
(.seq (.seq (.reg [m 7 3,
q 8 1 0,
l 9 8,
d 10 (.len .i (t 9)),
b 11 .lss (t 7) (t 10)])
(.cond (t 11)
.skip
(.brk 0)))
(.seq (.block 1
(.seq (.reg [q 14 1 0,
l 15 14,
m 16 3,
d 17 (.idxS (t 15) (t 16) 4),
d 18 (.load (t 17) 4 true),
d 4 (.allocz [s0,i0,i0,i0] false),
⟨none,none,.store (t 4) (t 18) 4⟩])
(.seq (.reg [q 19 4 0,
l 20 19,
k 21 40 [t 20],
d 22 (.un .not (t 21)),
m 23 22,
⟨some 24,some (23,false),.fad (t 4) 1⟩,
⟨some 25,some (23,false),.load (t 24) 1 false⟩,
⟨some 26,some (23,false),.bin .lss .plain (t 25) (i 1)⟩,
d 27 (.pick (t 23) (.cst (.bool true)) (t 26)),
m 28 27,
⟨some 29,some (28,false),.fad (t 4) 1⟩,
⟨some 30,some (28,false),.load (t 29) 1 false⟩,
⟨some 31,some (28,false),.bin .gtr .plain (t 30) (i 13)⟩,
d 32 (.pick (t 28) (.cst (.bool true)) (t 31)),
m 33 32,
⟨some 34,some (33,false),.fad (t 4) 2⟩,
⟨some 35,some (33,false),.load (t 34) 1 false⟩,
⟨some 36,some (33,false),.bin .lss .plain (t 35) (i 1)⟩,
d 37 (.pick (t 33) (.cst (.bool true)) (t 36)),
m 38 37,
⟨some 39,some (38,false),.fad (t 4) 2⟩,
⟨some 40,some (38,false),.load (t 39) 1 false⟩,
⟨some 41,some (38,false),.bin .gtr .plain (t 40) (i 16)⟩,
d 42 (.pick (t 38) (.cst (.bool true)) (t 41)),
m 43 42,
⟨some 44,some (43,false),.fad (t 4) 3⟩,
⟨some 45,some (43,false),.load (t 44) 1 false⟩,
⟨some 46,some (43,false),.bin .lss .plain (t 45) (i 0)⟩,
d 47 (.pick (t 43) (.cst (.bool true)) (t 46)),
m 48 47,
⟨some 49,some (48,false),.fad (t 4) 3⟩,
⟨some 50,some (48,false),.load (t 49) 1 false⟩,
⟨some 51,some (48,false),.bin .gtr .plain (t 50) (i 64)⟩,
d 52 (.pick (t 48) (.cst (.bool true)) (t 51))])
(.cond (t 52)
(.seq (.reg [d 2 (.mv (.cst (.bool false)))])
.ret)
.skip))))
(.reg [m 12 3,
b 13 .add (t 12) (i 1),
m 3 13]))))))
(.seq (.seq (.reg [d 5 (.mv (i 0))])
(.block 2
(.loop [1,5]
(.seq (.seq (.reg [m 53 5,
q 54 1 1,
l 55 54,
d 56 (.len .i (t 55)),
b 57 .lss (t 53) (t 56)])
(.cond (t 57)
.skip
(.brk 2)))
(.seq (.block 3
(.seq (.reg [q 60 1 1,
l 61 60,
m 62 5,
d 63 (.idxS (t 61) (t 62) 2),
d 64 (.load (t 63) 2 true),
d 6 (.allocz [s0,i0] false),
⟨none,none,.store (t 6) (t 64) 2⟩])
(.seq (.reg [q 65 6 0,
l 66 65,
k 67 40 [t 66],
d 68 (.un .not (t 67)),
m 69 68,
⟨some 70,some (69,false),.fad (t 6) 1⟩,
⟨some 71,some (69,false),.load (t 70) 1 false⟩,
⟨some 72,some (69,false),.bin .lss .plain (t 71) (i 1)⟩,
d 73 (.pick (t 69) (.cst (.bool true)) (t 72)),
m 74 73,
⟨some 75,some (74,false),.fad (t 6) 1⟩,
⟨some 76,some (74,false),.load (t 75) 1 false⟩,
⟨some 77,some (74,false),.bin .gtr .plain (t 76) (i 64)⟩,
d 78 (.pick (t 74) (.cst (.bool true)) (t 77))])
(.cond (t 78)
(.seq (.reg [d 2 (.mv (.cst (.bool false)))])
.ret)
.skip))))
(.reg [m 58 5,
b 59 .add (t 58) (i 1),
m 5 59]))))))
(.seq (.reg [q 79 1 2,
l 80 79,
k 81 41 [t 80,i 1],
m 82 81,
⟨some 83,some (82,true),.load (t 1) 3 true⟩,
⟨some 84,some (82,true),.call 42 [t 83]⟩,
⟨some 85,some (82,true),.len .s (t 84)⟩,
⟨some 86,some (82,true),.bin .leq .plain (t 85) (i 20000)⟩,
d 87 (.pick (t 82) (t 86) (.cst (.bool false))),
m 2 87])
.ret)))⟩
theorem tr27:trF Tryd.prog (h [] [] [[1,3],[1,5]] [] false) Tryd.f27=some ir27:=by kernel_rfl
def ir28:IFn:=⟨6,[.tmp 2 false],
.seq (.reg [d 1 (.box (t 0) false),
d 2 (.mv (i 0))])
(.seq (.reg [q 3 1 3,
l 4 3,
d 5 (.max [t 4,i 1]),
m 2 5])
.ret)⟩
theorem tr28:trF Tryd.prog h0 Tryd.f28=some ir28:=by kernel_rfl
def ir30:IFn:=⟨94,[],
.seq (.reg [m 8 1,
d 9 (.len .i (t 8)),
d 10 (.mv (i 0))])
(.block 0
(.loop [0,8,9,10]
(.seq (.reg [b 11 .lss (t 10) (t 9)])
(.seq (.cond (t 11)
.skip
(.brk 0))
(.seq (.block 1
(.seq (.reg [d 12 (.idxS (t 8) (t 10) 5),
d 13 (.load (t 12) 5 true),
d 5 (.allocz [i0,s0,(.vec [] .full),(.vec [] .full),(.vec [] .full)] false),
⟨none,none,.store (t 5) (t 13) 5⟩])
(.seq (.reg [q 14 5 0,
l 15 14])
(.block 2
(.seq (.reg [b 17 .eql (t 15) (i 1),
m 16 17])
(.cond (t 16)
(.draw [(m 18 0,0,[]),
(d 19 (.nilc (t 18)),1,[]),
(q 20 19 0,2,[]),
(l 21 20,3,[]),
(q 22 5 1,4,[]),
(l 23 22,5,[]),
(m 24 0,6,[]),
(q 25 5 2,7,[]),
(l 26 25,8,[]),
(d 27 (.idxS (t 26) (i 0) 5),9,[]),
(d 28 (.load (t 27) 5 true),10,[]),
(k 29 44 [t 24,t 28],11,[3,5]),
(⟨none,none,.mup .s (t 21) (t 23) (t 29)⟩,12,[])])
(.seq (.reg [b 31 .eql (t 15) (i 2),
m 30 31])
(.cond (t 30)
(.seq (.draw [(m 32 0,0,[]),
(q 33 5 2,1,[]),
(l 34 33,2,[]),
(d 35 (.idxS (t 34) (i 0) 5),3,[]),
(d 36 (.load (t 35) 5 true),4,[]),
(m 38 0,6,[]),
(q 39 5 2,7,[]),
(l 40 39,8,[]),
(d 41 (.idxS (t 40) (i 1) 5),9,[]),
(d 42 (.load (t 41) 5 true),10,[]),
(k 37 44 [t 32,t 36],5,[7,9]),
(k 43 44 [t 38,t 42],11,[]),
(m 6 37,12,[]),
(m 7 43,13,[])])
(.draw [(m 44 0,0,[]),
(d 45 (.nilc (t 44)),1,[]),
(q 46 45 1,2,[]),
(l 47 46,3,[]),
(q 48 5 1,4,[]),
(l 49 48,5,[]),
(d 50 (.lkp .s (t 47) (t 49) (.vec [] .full) false),6,[]),
(m 51 6,7,[]),
(m 52 7,8,[]),
(d 53 (.idxS (t 50) (t 51) 1),9,[]),
(⟨none,none,.store (t 53) (t 52) 1⟩,10,[])]))
(.seq (.reg [b 55 .eql (t 15) (i 3),
m 54 55])
(.cond (t 54)
(.seq (.reg [m 56 0,
q 57 5 2,
l 58 57,
d 59 (.idxS (t 58) (i 0) 5),
d 60 (.load (t 59) 5 true),
k 61 44 [t 56,t 60],
b 62 .eql (t 61) (w 1)])
(.cond (t 62)
(.reg [m 63 0,
q 64 5 3,
l 65 64,
k 66 30 [t 63,t 65]])
(.reg [m 67 0,
q 68 5 4,
l 69 68,
k 70 30 [t 67,t 69]])))
(.seq (.reg [b 72 .eql (t 15) (i 4),
m 71 72])
(.cond (t 71)
(.reg [m 73 0,
d 74 (.load (t 5) 5 true),
k 75 45 [t 73,t 74]])
(.seq (.reg [b 77 .eql (t 15) (i 5),
m 76 77])
(.cond (t 76)
(.draw [(m 78 0,0,[]),
(m 79 0,1,[]),
(d 80 (.nilc (t 79)),2,[]),
(q 81 80 2,3,[]),
(l 82 81,4,[]),
(m 83 0,5,[]),
(q 84 5 2,6,[]),
(l 85 84,7,[]),
(d 86 (.idxS (t 85) (i 0) 5),8,[]),
(d 87 (.load (t 86) 5 true),9,[]),
(k 88 44 [t 83,t 87],10,[4]),
(d 89 (.bsl 1 1 false [w0] [(0,1,(t 88))]),11,[]),
(d 90 (.app (t 82) (t 89) 1 8 false true),12,[]),
(d 91 (.nilc (t 78)),13,[]),
(q 92 91 2,14,[]),
(⟨none,none,.store (t 92) (t 90) 1⟩,15,[])])
.skip))))))))))))))
(.reg [b 93 .add (t 10) (i 1),
m 10 93]))))))⟩
theorem tr30:trF Tryd.prog (h [90] [] [[0,8,9,10]] [(5,([0,1,3,7,0,16,0,0,128,384,896,1984,4095],[(0,[]),(1,[]),(2,[]),(3,[]),(4,[]),(5,[]),(6,[]),(7,[]),(8,[]),(9,[]),(10,[]),(11,[3,5]),(12,[])])),(7,([0,0,2,6,14,31,0,0,128,384,896,2047,4095,8191],[(0,[]),(1,[]),(2,[]),(3,[]),(4,[]),(6,[]),(7,[]),(8,[]),(9,[]),(10,[]),(5,[7,9]),(11,[]),(12,[]),(13,[])])),(8,([0,1,3,7,0,16,63,0,0,511,1023],[(0,[]),(1,[]),(2,[]),(3,[]),(4,[]),(5,[]),(6,[]),(7,[]),(8,[]),(9,[]),(10,[])])),(16,([0,0,2,6,14,0,0,64,192,448,992,2016,4094,8191,16383,32767],[(0,[]),(1,[]),(2,[]),(3,[]),(4,[]),(5,[]),(6,[]),(7,[]),(8,[]),(9,[]),(10,[4]),(11,[]),(12,[]),(13,[]),(14,[]),(15,[])]))] false) Tryd.f30=some ir30:=by kernel_rfl
def ir31:IFn:=⟨15,[.tmp 4 false],
.seq (.reg [d 2 (.box (t 0) false),
d 4 (.mv (i 0))])
(.seq (.reg [d 6 (.load (t 2) 3 true),
k 7 46 [t 6],
m 5 7])
(.seq (.seq (.reg [m 8 5,
b 9 .neq (t 8) (i 0)])
(.cond (t 9)
(.seq (.reg [m 10 5,
m 4 10])
.ret)
.skip))
(.seq (.seq (.reg [d 11 (.load (t 2) 3 true),
m 12 1,
k 13 25 [t 11,t 12],
d 14 (.un .not (t 13))])
(.cond (t 14)
(.seq (.reg [d 4 (.mv (i 1))])
.ret)
.skip))
(.seq (.reg [d 4 (.mv (i 0))])
.ret))))⟩
theorem tr31:trF Tryd.prog h0 Tryd.f31=some ir31:=by kernel_rfl
def ir32:IFn:=⟨8,[.tmp 2 false],
.seq (.reg [d 1 (.box (t 0) false),
d 2 (.mv (i 0))])
(.seq (.seq (.reg [q 3 1 3,
l 4 3,
b 5 .gtr (t 4) (i 0)])
(.cond (t 5)
(.seq (.reg [q 6 1 3,
l 7 6,
m 2 7])
.ret)
.skip))
(.seq (.reg [d 2 (.mv (i 1))])
.ret))⟩
theorem tr32:trF Tryd.prog h0 Tryd.f32=some ir32:=by kernel_rfl
def ir33:IFn:=⟨42,[],
.seq (.reg [m 7 0,
d 8 (.nilc (t 7)),
q 9 8 0,
l 10 9,
m 11 1,
k 12 47 [t 10,t 11],
m 6 12])
(.seq (.seq (.reg [m 13 6,
b 14 .lss (t 13) (i 0)])
(.cond (t 14)
(.seq (.draw [(m 15 0,0,[]),
(m 16 0,1,[]),
(m 17 0,2,[]),
(d 18 (.nilc (t 17)),3,[]),
(q 19 18 0,4,[]),
(l 20 19,5,[]),
(m 21 1,6,[]),
(d 22 (.bsl 1 1 false [s0] [(0,1,(t 21))]),7,[]),
(m 24 0,9,[]),
(d 25 (.nilc (t 24)),10,[]),
(q 26 25 1,11,[]),
(l 27 26,12,[]),
(m 28 2,13,[]),
(d 29 (.bsl 1 1 false [w0] [(0,1,(t 28))]),14,[]),
(d 23 (.app (t 20) (t 22) 1 16 false true),8,[11]),
(d 30 (.app (t 27) (t 29) 1 8 false true),15,[]),
(d 31 (.nilc (t 15)),16,[]),
(q 32 31 0,17,[]),
(⟨none,none,.store (t 32) (t 23) 1⟩,18,[]),
(d 33 (.nilc (t 16)),19,[]),
(q 34 33 1,20,[]),
(⟨none,none,.store (t 34) (t 30) 1⟩,21,[])])
.ret)
.skip))
(.reg [m 35 0,
d 36 (.nilc (t 35)),
q 37 36 1,
l 38 37,
m 39 6,
m 40 2,
d 41 (.idxS (t 38) (t 39) 1),
⟨none,none,.store (t 41) (t 40) 1⟩]))⟩
theorem tr33:trF Tryd.prog (h [23,30,23,30] [] [] [(2,([0,0,0,4,12,28,0,64,252,0,512,1536,3584,0,8192,32764,65533,131069,262141,524287,1048575,2097151],[(0,[]),(1,[]),(2,[]),(3,[]),(4,[]),(5,[]),(6,[]),(7,[]),(9,[]),(10,[]),(11,[]),(12,[]),(13,[]),(14,[]),(8,[11]),(15,[]),(16,[]),(17,[]),(18,[]),(19,[]),(20,[]),(21,[])]))] false) Tryd.f33=some ir33:=by kernel_rfl
def ir34:IFn:=⟨132,[],
.seq (.reg [d 4 (.mv (i 0))])
(.block 0
(.loop [0,1,4]
(.seq (.seq (.reg [m 10 4,
m 11 1,
d 12 (.len .i (t 11)),
b 13 .lss (t 10) (t 12)])
(.cond (t 13)
.skip
(.brk 0)))
(.seq (.block 1
(.seq (.reg [m 16 1,
m 17 4,
d 18 (.idxS (t 16) (t 17) 5),
d 19 (.load (t 18) 5 true),
d 5 (.allocz [i0,s0,(.vec [] .full),(.vec [] .full),(.vec [] .full)] false),
⟨none,none,.store (t 5) (t 19) 5⟩])
(.seq (.reg [q 20 5 0,
l 21 20])
(.block 2
(.seq (.reg [b 38 .eql (t 21) (i 1),
m 37 38])
(.cond (t 37)
(.draw [(m 39 0,0,[]),
(q 40 5 1,1,[]),
(l 41 40,2,[]),
(m 42 0,3,[]),
(q 43 5 2,4,[]),
(l 44 43,5,[]),
(d 45 (.idxS (t 44) (i 0) 5),6,[]),
(d 46 (.load (t 45) 5 true),7,[]),
(k 47 48 [t 42,t 46],8,[2]),
(k 48 33 [t 39,t 41,t 47],9,[])])
(.seq (.reg [b 50 .eql (t 21) (i 2),
m 49 50])
(.cond (t 49)
(.seq (.reg [m 51 0,
q 52 5 2,
l 53 52,
d 54 (.idxS (t 53) (i 0) 5),
d 55 (.load (t 54) 5 true),
k 56 48 [t 51,t 55],
m 6 56])
(.draw [(m 57 0,0,[]),
(d 58 (.nilc (t 57)),1,[]),
(q 59 58 3,2,[]),
(l 60 59,3,[]),
(m 61 0,4,[]),
(d 62 (.nilc (t 61)),5,[]),
(q 63 62 2,6,[]),
(l 64 63,7,[]),
(q 65 5 1,8,[]),
(l 66 65,9,[]),
(m 70 6,13,[]),
(m 71 0,14,[]),
(q 72 5 2,15,[]),
(l 73 72,16,[]),
(d 74 (.idxS (t 73) (i 1) 5),17,[]),
(d 75 (.load (t 74) 5 true),18,[]),
(k 67 47 [t 64,t 66],10,[3,13,15]),
(d 68 (.idxS (t 60) (t 67) 1),11,[]),
(l 69 68,12,[]),
(k 76 48 [t 71,t 75],19,[3,18]),
(d 77 (.idxS (t 69) (t 70) 1),20,[]),
(⟨none,none,.store (t 77) (t 76) 1⟩,21,[])]))
(.seq (.reg [b 79 .eql (t 21) (i 3),
m 78 79])
(.cond (t 78)
(.seq (.reg [m 80 0,
q 81 5 2,
l 82 81,
d 83 (.idxS (t 82) (i 0) 5),
d 84 (.load (t 83) 5 true),
k 85 48 [t 80,t 84],
b 86 .neq (t 85) (w 0)])
(.cond (t 86)
(.reg [m 87 0,
q 88 5 3,
l 89 88,
k 90 34 [t 87,t 89]])
(.reg [m 91 0,
q 92 5 4,
l 93 92,
k 94 34 [t 91,t 93]])))
(.seq (.reg [b 96 .eql (t 21) (i 4),
m 95 96])
(.cond (t 95)
(.seq (.draw [(m 97 0,0,[]),
(q 98 5 2,1,[]),
(l 99 98,2,[]),
(d 100 (.idxS (t 99) (i 0) 5),3,[]),
(d 101 (.load (t 100) 5 true),4,[]),
(m 103 0,6,[]),
(q 104 5 2,7,[]),
(l 105 104,8,[]),
(d 106 (.idxS (t 105) (i 1) 5),9,[]),
(d 107 (.load (t 106) 5 true),10,[]),
(k 102 48 [t 97,t 101],5,[7,9]),
(k 108 48 [t 103,t 107],11,[]),
(m 7 102,12,[]),
(m 8 108,13,[])])
(.seq (.reg [m 109 0,
q 110 5 1,
l 111 110,
k 112 49 [t 109,t 111]])
(.seq (.reg [m 113 7,
m 9 113])
(.block 3
(.loop [0,1,4,5,8,9]
(.seq (.seq (.reg [m 114 9,
m 115 8,
b 116 .leq (t 114) (t 115)])
(.cond (t 116)
.skip
(.brk 3)))
(.seq (.block 4
(.seq (.reg [m 119 0,
q 120 5 1,
l 121 120,
m 122 9,
k 123 33 [t 119,t 121,t 122]])
(.seq (.reg [m 124 0,
q 125 5 3,
l 126 125,
k 127 34 [t 124,t 126]])
(.reg [m 128 0,
q 129 5 1,
l 130 129,
k 131 49 [t 128,t 130]]))))
(.reg [m 117 9,
b 118 .add (t 117) (w 1),
m 9 118]))))))))
(.draw [(m 22 0,0,[]),
(m 23 0,1,[]),
(d 24 (.nilc (t 23)),2,[]),
(q 25 24 4,3,[]),
(l 26 25,4,[]),
(m 27 0,5,[]),
(q 28 5 2,6,[]),
(l 29 28,7,[]),
(d 30 (.idxS (t 29) (i 0) 5),8,[]),
(d 31 (.load (t 30) 5 true),9,[]),
(k 32 48 [t 27,t 31],10,[4]),
(d 33 (.bsl 1 1 false [w0] [(0,1,(t 32))]),11,[]),
(d 34 (.app (t 26) (t 33) 1 8 false true),12,[]),
(d 35 (.nilc (t 22)),13,[]),
(q 36 35 4,14,[]),
(⟨none,none,.store (t 36) (t 34) 1⟩,15,[])])))))))))))))
(.reg [m 14 4,
b 15 .add (t 14) (i 1),
m 4 15])))))⟩
theorem tr34:trF Tryd.prog (h [34] [] [[0,1,4],[0,1,4,5,8,9]] [(7,([0,0,2,0,0,16,48,112,248,511],[(0,[]),(1,[]),(2,[]),(3,[]),(4,[]),(5,[]),(6,[]),(7,[]),(8,[2]),(9,[])])),(10,([0,1,3,7,0,16,48,112,0,256,1008,2047,4095,0,0,0,32768,98304,229376,509936,1048575,2097151],[(0,[]),(1,[]),(2,[]),(3,[]),(4,[]),(5,[]),(6,[]),(7,[]),(8,[]),(9,[]),(13,[]),(14,[]),(15,[]),(16,[]),(17,[]),(18,[]),(10,[3,13,15]),(11,[]),(12,[]),(19,[3,18]),(20,[]),(21,[])])),(16,([0,0,2,6,14,31,0,0,128,384,896,2047,4095,8191],[(0,[]),(1,[]),(2,[]),(3,[]),(4,[]),(6,[]),(7,[]),(8,[]),(9,[]),(10,[]),(5,[7,9]),(11,[]),(12,[]),(13,[])])),(5,([0,0,2,6,14,0,0,64,192,448,992,2016,4094,8191,16383,32767],[(0,[]),(1,[]),(2,[]),(3,[]),(4,[]),(5,[]),(6,[]),(7,[]),(8,[]),(9,[]),(10,[4]),(11,[]),(12,[]),(13,[]),(14,[]),(15,[])]))] false) Tryd.f34=some ir34:=by kernel_rfl
def ir35:IFn:=⟨11,[.tmp 2 false],
.seq (.reg [d 1 (.box (t 0) false),
d 2 (.mv (i 0))])
(.seq (.reg [d 6 (.load (t 1) 3 true),
k 7 37 [t 6],
m 5 7,
d 8 (.ext (t 5) 0),
d 9 (.ext (t 5) 1),
m 3 8,
m 4 9])
(.seq (.reg [m 10 4,
m 2 10])
.ret))⟩
theorem tr35:trF Tryd.prog h0 Tryd.f35=some ir35:=by kernel_rfl
def ir36:IFn:=⟨89,[.tmp 4 false],
.seq (.reg [d 2 (.box (t 0) false),
d 4 (.mv (.cst (.bool false)))])
(.seq (.reg [m 12 1,
d 13 (.len .i (t 12)),
d 14 (.mks (t 13) (t 13) 1 8 false [i0] true),
m 5 14])
(.seq (.seq (.reg [q 15 2 0,
l 16 15,
d 17 (.len .i (t 16)),
d 18 (.mv (i 0))])
(.block 0
(.loop [1,5,16,17,18]
(.seq (.reg [b 19 .lss (t 18) (t 17)])
(.seq (.cond (t 19)
.skip
(.brk 0))
(.seq (.block 1
(.seq (.reg [d 20 (.idxS (t 16) (t 18) 4),
d 21 (.load (t 20) 4 true),
d 7 (.allocz [s0,i0,i0,i0] false),
⟨none,none,.store (t 7) (t 21) 4⟩])
(.seq (.seq (.reg [q 22 7 1,
l 23 22,
m 24 1,
d 25 (.len .i (t 24)),
b 26 .gtr (t 23) (t 25)])
(.cond (t 26)
(.seq (.reg [d 4 (.mv (.cst (.bool false)))])
.ret)
.skip))
(.seq (.reg [d 27 (.load (t 7) 4 true),
k 28 28 [t 27],
d 29 (.mv (i 0))])
(.block 2
(.loop [1,5,7,16,17,18,28,29]
(.seq (.reg [b 30 .lss (t 29) (t 28)])
(.seq (.cond (t 30)
.skip
(.brk 2))
(.seq (.block 3
(.seq (.draw [(m 31 1,0,[]),
(q 32 7 1,1,[]),
(l 33 32,2,[]),
(b 34 .sub (t 33) (i 1),3,[]),
(d 35 (.idxS (t 31) (t 34) 1),4,[]),
(l 36 35,5,[]),
(m 37 5,6,[]),
(q 38 7 1,7,[]),
(l 39 38,8,[]),
(b 40 .sub (t 39) (i 1),9,[]),
(d 41 (.idxS (t 37) (t 40) 1),10,[]),
(l 42 41,11,[]),
(m 8 36,12,[]),
(m 9 42,13,[])])
(.seq (.seq (.draw [(m 43 9,0,[]),
(m 44 8,1,[]),
(d 45 (.len .i (t 44)),2,[]),
(b 46 .geq (t 43) (t 45),3,[]),
(m 47 46,4,[]),
(⟨some 48,some (47,false),.mv (t 8)⟩,5,[]),
(⟨some 49,some (47,false),.mv (t 9)⟩,6,[]),
(⟨some 50,some (47,false),.idxS (t 48) (t 49) 1⟩,7,[]),
(⟨some 51,some (47,false),.load (t 50) 1 false⟩,8,[]),
(⟨some 52,some (47,false),.bin .neq .plain (t 51) (w 0)⟩,9,[]),
(⟨some 53,some (47,false),.mv (t 52)⟩,10,[]),
(⟨some 54,some (53,true),.mv (t 8)⟩,11,[]),
(⟨some 55,some (53,true),.mv (t 9)⟩,12,[]),
(⟨some 56,some (53,true),.idxS (t 54) (t 55) 1⟩,13,[]),
(⟨some 57,some (53,true),.load (t 56) 1 false⟩,14,[]),
(⟨some 59,some (53,true),.fad (t 7) 2⟩,16,[]),
(⟨some 60,some (53,true),.load (t 59) 1 false⟩,17,[]),
(⟨some 58,some (53,true),.call 50 [t 57]⟩,15,[16]),
(⟨some 61,some (53,true),.bin .gtr .plain (t 58) (t 60)⟩,18,[]),
(⟨some 62,some (47,false),.pick (t 53) (t 61) (.cst (.bool false))⟩,19,[]),
(d 63 (.pick (t 47) (.cst (.bool true)) (t 62)),20,[])])
(.cond (t 63)
(.seq (.reg [d 4 (.mv (.cst (.bool false)))])
.ret)
.skip))
(.reg [m 64 5,
q 65 7 1,
l 66 65,
b 67 .sub (t 66) (i 1),
d 68 (.idxS (t 64) (t 67) 1),
l 69 68,
b 70 .add (t 69) (i 1),
d 71 (.idxS (t 64) (t 67) 1),
⟨none,none,.store (t 71) (t 70) 1⟩]))))
(.reg [b 72 .add (t 29) (i 1),
m 29 72]))))))))))
(.reg [b 73 .add (t 18) (i 1),
m 18 73])))))))
(.seq (.seq (.reg [m 74 1,
d 75 (.len .i (t 74)),
d 76 (.mv (i 0))])
(.block 4
(.loop [5,74,75,76]
(.seq (.reg [b 77 .lss (t 76) (t 75)])
(.seq (.cond (t 77)
.skip
(.brk 4))
(.seq (.block 5
(.seq (.reg [m 78 76,
d 79 (.idxS (t 74) (t 76) 1),
l 80 79,
m 10 78,
m 11 80])
(.seq (.reg [m 81 5,
m 82 10,
d 83 (.idxS (t 81) (t 82) 1),
l 84 83,
m 85 11,
d 86 (.len .i (t 85)),
b 87 .neq (t 84) (t 86)])
(.cond (t 87)
(.seq (.reg [d 4 (.mv (.cst (.bool false)))])
.ret)
.skip))))
(.reg [b 88 .add (t 76) (i 1),
m 76 88])))))))
(.seq (.reg [d 4 (.mv (.cst (.bool true)))])
.ret))))⟩
theorem tr36:trF Tryd.prog (h [14] [] [[1,5,16,17,18],[1,5,7,16,17,18,28,29],[5,74,75,76]] [(9,([0,0,2,6,15,31,0,0,128,384,960,1984,63,8191],[(0,[]),(1,[]),(2,[]),(3,[]),(4,[]),(5,[]),(6,[]),(7,[]),(8,[]),(9,[]),(10,[]),(11,[]),(12,[]),(13,[])])),(10,([0,0,2,7,15,31,31,127,255,511,1023,2047,2047,8191,16383,32767,2047,67583,262143,524287,1048575],[(0,[]),(1,[]),(2,[]),(3,[]),(4,[]),(5,[]),(6,[]),(7,[]),(8,[]),(9,[]),(10,[]),(11,[]),(12,[]),(13,[]),(14,[]),(16,[]),(17,[]),(15,[16]),(18,[]),(19,[]),(20,[])]))] false) Tryd.f36=some ir36:=by kernel_rfl
def ir37:IFn:=⟨96,[.cell 2 1 false false,.cell 3 1 false false],
.seq (.reg [d 1 (.box (t 0) false),
d 2 (.allocz [i0] true),
d 3 (.allocz [i0] true)])
(.seq (.reg [d 10 (.mkM),
d 11 (.mkM),
d 12 (.mkM),
d 13 (.mkM),
d 14 (.mkM),
d 15 (.bld [.nilmap,.nilmap,.nilmap,.nilmap,.nilmap,i0,i0,i0] [(0,1,(t 10)),(1,1,(t 11)),(2,1,(t 12)),(3,1,(t 13)),(4,1,(t 14))]),
d 16 (.box (t 15) true),
m 4 16])
(.seq (.seq (.reg [q 17 1 0,
l 18 17,
d 19 (.len .i (t 18)),
d 20 (.mv (i 0))])
(.block 0
(.loop [1,2,3,4,18,19,20]
(.seq (.reg [b 21 .lss (t 20) (t 19)])
(.seq (.cond (t 21)
.skip
(.brk 0))
(.seq (.block 1
(.seq (.reg [d 22 (.idxS (t 18) (t 20) 4),
d 23 (.load (t 22) 4 true),
d 6 (.allocz [s0,i0,i0,i0] false),
⟨none,none,.store (t 6) (t 23) 4⟩])
(.seq (.seq (.reg [m 24 4,
q 25 6 0,
l 26 25,
k 27 52 [t 24,t 26]])
(.cond (t 27)
(.reg [k 28 53 [i 4]])
.skip))
(.seq (.draw [(m 29 4,0,[]),
(d 30 (.nilc (t 29)),1,[]),
(q 31 30 0,2,[]),
(l 32 31,3,[]),
(q 33 6 0,4,[]),
(l 34 33,5,[]),
(d 35 (.load (t 6) 4 true),6,[]),
(⟨none,none,.mup .s (t 32) (t 34) (t 35)⟩,7,[])])
(.draw [(m 36 4,0,[]),
(m 37 4,1,[]),
(d 38 (.nilc (t 37)),2,[]),
(q 39 38 6,3,[]),
(l 40 39,4,[]),
(q 41 6 2,5,[]),
(l 42 41,6,[]),
(d 43 (.max [t 40,t 42]),7,[]),
(d 44 (.nilc (t 36)),8,[]),
(q 45 44 6,9,[]),
(⟨none,none,.store (t 45) (t 43) 1⟩,10,[])])))))
(.reg [b 46 .add (t 20) (i 1),
m 20 46])))))))
(.seq (.seq (.reg [q 47 1 1,
l 48 47,
d 49 (.len .i (t 48)),
d 50 (.mv (i 0))])
(.block 2
(.loop [1,2,3,4,48,49,50]
(.seq (.reg [b 51 .lss (t 50) (t 49)])
(.seq (.cond (t 51)
.skip
(.brk 2))
(.seq (.block 3
(.seq (.reg [d 52 (.idxS (t 48) (t 50) 2),
d 53 (.load (t 52) 2 true),
d 8 (.allocz [s0,i0] false),
⟨none,none,.store (t 8) (t 53) 2⟩])
(.seq (.seq (.reg [m 54 4,
q 55 8 0,
l 56 55,
k 57 52 [t 54,t 56]])
(.cond (t 57)
(.reg [k 58 53 [i 4]])
.skip))
(.seq (.draw [(m 59 4,0,[]),
(d 60 (.nilc (t 59)),1,[]),
(q 61 60 1,2,[]),
(l 62 61,3,[]),
(q 63 8 0,4,[]),
(l 64 63,5,[]),
(q 65 8 1,6,[]),
(l 66 65,7,[]),
(⟨none,none,.mup .s (t 62) (t 64) (t 66)⟩,8,[])])
(.seq (.reg [q 67 8 1,
l 68 67,
d 69 (.mv (i 0))])
(.block 4
(.loop [1,2,3,4,8,48,49,50,68,69]
(.seq (.reg [b 70 .lss (t 69) (t 68)])
(.seq (.cond (t 70)
.skip
(.brk 4))
(.seq (.block 5
(.draw [(m 71 4,0,[]),
(d 72 (.nilc (t 71)),1,[]),
(q 73 72 3,2,[]),
(l 74 73,3,[]),
(q 75 8 0,4,[]),
(l 76 75,5,[]),
(m 77 4,6,[]),
(d 78 (.nilc (t 77)),7,[]),
(q 79 78 3,8,[]),
(l 80 79,9,[]),
(q 81 8 0,10,[]),
(l 82 81,11,[]),
(d 83 (.lkp .s (t 80) (t 82) (.vec [] .full) false),12,[]),
(d 84 (.bsl 1 1 false [i0] [(0,1,(i 1))]),13,[]),
(d 85 (.app (t 83) (t 84) 1 8 false true),14,[3,5]),
(⟨none,none,.mup .s (t 74) (t 76) (t 85)⟩,15,[])]))
(.reg [b 86 .add (t 69) (i 1),
m 69 86])))))))))))
(.reg [b 87 .add (t 50) (i 1),
m 50 87])))))))
(.seq (.reg [m 88 4,
q 89 1 2,
l 90 89,
k 91 54 [t 88,t 90]])
(.seq (.reg [m 92 4,
d 93 (.nilc (t 92)),
q 94 93 6,
l 95 94,
⟨none,none,.store (t 2) (t 95) 1⟩,
⟨none,none,.store (t 3) (i 0) 1⟩])
.ret)))))⟩
def hs37:Hints:={ obj:=[2,3,16,85,15],bare:=[],loops:=[[1,2,3,4,18,19,20],[1,2,3,4,48,49,50],[1,2,3,4,8,48,49,50,68,69]],draws:=[(8,([0,1,3,7,0,16,0,127],[(0,[]),(1,[]),(2,[]),(3,[]),(4,[]),(5,[]),(6,[]),(7,[])])),(9,([0,0,2,6,14,0,32,126,255,511,1023],[(0,[]),(1,[]),(2,[]),(3,[]),(4,[]),(5,[]),(6,[]),(7,[]),(8,[]),(9,[]),(10,[])])),(16,([0,1,3,7,0,16,0,64,255],[(0,[]),(1,[]),(2,[]),(3,[]),(4,[]),(5,[]),(6,[]),(7,[]),(8,[])])),(19,([0,1,3,7,0,16,0,64,192,448,0,1024,4032,0,16320,32767],[(0,[]),(1,[]),(2,[]),(3,[]),(4,[]),(5,[]),(6,[]),(7,[]),(8,[]),(9,[]),(10,[]),(11,[]),(12,[]),(13,[]),(14,[3,5]),(15,[])]))],glob:=Zik,fresh:=false }
theorem tr37:trD Go.Proofs.Tryd.prog (hs37) 4 Go.Proofs.Tryd.f37=some ir37:=by kernel_rfl
def ir38:IFn:=⟨11,[.tmp 2 false],
.seq (.reg [d 2 (.mv (i 0))])
(.seq (.reg [d 3 (.mv (i 1))])
(.seq (.block 0
(.loop [0,3]
(.seq (.seq (.reg [m 4 0,
b 5 .gtr (t 4) (w 1)])
(.cond (t 5)
.skip
(.brk 0)))
(.block 1
(.seq (.reg [m 6 0,
b 7 .quo (t 6) (w 2),
m 0 7])
(.reg [m 8 3,
b 9 .add (t 8) (i 1),
m 3 9]))))))
(.seq (.reg [m 10 3,
m 2 10])
.ret)))⟩
theorem tr38:trF Tryd.prog (h [] [] [[0,3]] [] false) Tryd.f38=some ir38:=by kernel_rfl
def ir39:IFn:=⟨52,[.tmp 6 false],
.seq (.reg [d 6 (.mv (i 0))])
(.seq (.reg [m 8 2,
m 9 0,
d 10 (.len .i (t 9)),
b 11 .sub (t 8) (t 10),
m 2 11])
(.seq (.seq (.reg [d 7 (.mv (i 0))])
(.block 0
(.loop [0,1,2,7]
(.seq (.seq (.reg [m 12 7,
m 13 0,
d 14 (.len .i (t 13)),
b 15 .lss (t 12) (t 14),
m 16 15,
⟨some 17,some (16,true),.mv (t 2)⟩,
⟨some 18,some (16,true),.bin .geq .plain (t 17) (i 0)⟩,
d 19 (.pick (t 16) (t 18) (.cst (.bool false)))])
(.cond (t 19)
.skip
(.brk 0)))
(.seq (.block 1
(.seq (.seq (.reg [m 22 1,
b 23 .gtr (t 22) (i 40)])
(.cond (t 23)
(.seq (.reg [d 6 (.mv (.cst (.int .i64 (-1))))])
.ret)
.skip))
(.seq (.reg [m 24 0,
m 25 7,
d 26 (.idxS (t 24) (t 25) 5),
q 27 26 2,
l 28 27,
m 29 1,
b 30 .add (t 29) (i 1),
m 31 2,
k 32 55 [t 28,t 30,t 31],
m 2 32])
(.seq (.reg [m 33 0,
m 34 7,
d 35 (.idxS (t 33) (t 34) 5),
q 36 35 3,
l 37 36,
m 38 1,
b 39 .add (t 38) (i 1),
m 40 2,
k 41 39 [t 37,t 39,t 40],
m 2 41])
(.reg [m 42 0,
m 43 7,
d 44 (.idxS (t 42) (t 43) 5),
q 45 44 4,
l 46 45,
m 47 1,
b 48 .add (t 47) (i 1),
m 49 2,
k 50 39 [t 46,t 48,t 49],
m 2 50])))))
(.reg [m 20 7,
b 21 .add (t 20) (i 1),
m 7 21]))))))
(.seq (.reg [m 51 2,
m 6 51])
.ret)))⟩
theorem tr39:trF Tryd.prog (h [] [] [[0,1,2,7]] [] false) Tryd.f39=some ir39:=by kernel_rfl
def ir40:IFn:=⟨28,[.tmp 2 false],
.seq (.reg [d 2 (.mv (.cst (.bool false)))])
(.seq (.reg [m 3 0,
d 4 (.len .s (t 3)),
b 5 .geq (t 4) (i 1),
m 6 5,
⟨some 7,some (6,true),.mv (t 0)⟩,
⟨some 8,some (6,true),.len .s (t 7)⟩,
⟨some 9,some (6,true),.bin .leq .plain (t 8) (i 20)⟩,
d 10 (.pick (t 6) (t 9) (.cst (.bool false))),
m 11 10,
⟨some 12,some (11,true),.mv (t 0)⟩,
⟨some 13,some (11,true),.idxStr (t 12) (i 0)⟩,
⟨some 14,some (11,true),.call 56 [t 13]⟩,
d 15 (.pick (t 11) (t 14) (.cst (.bool false))),
m 16 15,
⟨some 17,some (16,true),.mv (t 0)⟩,
⟨some 18,some (16,true),.call 57 [t 17,(.cst (.bool false))]⟩,
⟨some 19,some (16,true),.mv (t 0)⟩,
⟨some 20,some (16,true),.len .s (t 19)⟩,
⟨some 21,some (16,true),.bin .eql .plain (t 18) (t 20)⟩,
d 22 (.pick (t 16) (t 21) (.cst (.bool false))),
m 23 22,
⟨some 24,some (23,true),.mv (t 0)⟩,
⟨some 25,some (23,true),.call 58 [t 24]⟩,
⟨some 26,some (23,true),.un .not (t 25)⟩,
d 27 (.pick (t 23) (t 26) (.cst (.bool false))),
m 2 27])
.ret)⟩
theorem tr40:trF Tryd.prog h0 Tryd.f40=some ir40:=by kernel_rfl
def ir41:IFn:=⟨19,[.tmp 4 false],
.seq (.reg [d 4 (.mv (.cst (.bool false)))])
(.seq (.seq (.reg [d 5 (.mv (i 0))])
(.block 0
(.loop [0,1,5]
(.seq (.seq (.reg [m 6 5,
m 7 0,
d 8 (.len .i (t 7)),
b 9 .lss (t 6) (t 8)])
(.cond (t 9)
.skip
(.brk 0)))
(.seq (.block 1
(.seq (.reg [m 12 0,
m 13 5,
d 14 (.idxS (t 12) (t 13) 5),
d 15 (.load (t 14) 5 true),
m 16 1,
k 17 59 [t 15,t 16],
d 18 (.un .not (t 17))])
(.cond (t 18)
(.seq (.reg [d 4 (.mv (.cst (.bool false)))])
.ret)
.skip)))
(.reg [m 10 5,
b 11 .add (t 10) (i 1),
m 5 11]))))))
(.seq (.reg [d 4 (.mv (.cst (.bool true)))])
.ret))⟩
theorem tr41:trF Tryd.prog (h [] [] [[0,1,5]] [] false) Tryd.f41=some ir41:=by kernel_rfl
def ir42:IFn:=⟨77,[.tmp 2 false],
.seq (.reg [d 1 (.box (t 0) false),
d 2 (.mv (.cst s0))])
(.seq (.reg [d 3 (.mv (.cst s0))])
(.seq (.seq (.reg [d 4 (.mv (i 0))])
(.block 0
(.loop [1,3,4]
(.seq (.seq (.reg [m 8 4,
q 9 1 0,
l 10 9,
d 11 (.len .i (t 10)),
b 12 .lss (t 8) (t 11)])
(.cond (t 12)
.skip
(.brk 0)))
(.seq (.block 1
(.seq (.reg [q 15 1 0,
l 16 15,
m 17 4,
d 18 (.idxS (t 16) (t 17) 4),
d 19 (.load (t 18) 4 true),
d 5 (.allocz [s0,i0,i0,i0] false),
⟨none,none,.store (t 5) (t 19) 4⟩])
(.seq (.reg [d 6 (.mv (.cst s0))])
(.seq (.seq (.reg [q 20 5 3,
l 21 20,
b 22 .neq (t 21) (i 0)])
(.cond (t 22)
(.reg [q 23 5 3,
l 24 23,
k 25 60 [t 24],
b 26 .add (.cst (.str ⟨#[91]⟩)) (t 25),
b 27 .add (t 26) (.cst (.str ⟨#[93]⟩)),
m 6 27])
.skip))
(.draw [(m 28 3,0,[]),
(b 29 .add (t 28) (.cst (.str ⟨#[105,110,32]⟩)),1,[]),
(q 30 5 0,2,[]),
(l 31 30,3,[]),
(b 32 .add (t 29) (t 31),4,[]),
(m 33 6,5,[]),
(b 34 .add (t 32) (t 33),6,[]),
(b 35 .add (t 34) (.cst (.str ⟨#[32,102,114,111,109,32]⟩)),7,[]),
(q 36 5 1,8,[]),
(l 37 36,9,[]),
(q 41 5 2,13,[]),
(l 42 41,14,[]),
(k 38 60 [t 37],10,[3,11]),
(b 39 .add (t 35) (t 38),11,[]),
(b 40 .add (t 39) (.cst (.str ⟨#[58,32]⟩)),12,[]),
(k 43 60 [t 42],15,[3]),
(b 44 .add (t 40) (t 43),16,[]),
(b 45 .add (t 44) (.cst (.str ⟨#[59,10]⟩)),17,[]),
(m 3 45,18,[])])))))
(.reg [m 13 4,
b 14 .add (t 13) (i 1),
m 4 14]))))))
(.seq (.seq (.reg [d 7 (.mv (i 0))])
(.block 2
(.loop [1,3,7]
(.seq (.seq (.reg [m 46 7,
q 47 1 1,
l 48 47,
d 49 (.len .i (t 48)),
b 50 .lss (t 46) (t 49)])
(.cond (t 50)
.skip
(.brk 2)))
(.seq (.block 3
(.draw [(m 53 3,0,[]),
(b 54 .add (t 53) (.cst (.str ⟨#[97,114,114,97,121,32]⟩)),1,[]),
(q 55 1 1,2,[]),
(l 56 55,3,[]),
(m 57 7,4,[]),
(d 58 (.idxS (t 56) (t 57) 2),5,[]),
(q 59 58 0,6,[]),
(l 60 59,7,[]),
(b 61 .add (t 54) (t 60),8,[]),
(b 62 .add (t 61) (.cst (.str ⟨#[91]⟩)),9,[]),
(q 63 1 1,10,[]),
(l 64 63,11,[]),
(m 65 7,12,[]),
(d 66 (.idxS (t 64) (t 65) 2),13,[]),
(q 67 66 1,14,[]),
(l 68 67,15,[]),
(k 69 60 [t 68],16,[3,7]),
(b 70 .add (t 62) (t 69),17,[]),
(b 71 .add (t 70) (.cst (.str ⟨#[93,59,10]⟩)),18,[]),
(m 3 71,19,[])]))
(.reg [m 51 7,
b 52 .add (t 51) (i 1),
m 7 52]))))))
(.seq (.reg [m 72 3,
q 73 1 2,
l 74 73,
k 75 61 [t 74,(.cst s0)],
b 76 .add (t 72) (t 75),
m 2 76])
.ret))))⟩
theorem tr42:trF Tryd.prog (h [] [] [[1,3,4],[1,3,7]] [(9,([0,1,0,4,15,0,63,127,0,256,768,2047,4095,0,8192,26368,65535,131071,262143],[(0,[]),(1,[]),(2,[]),(3,[]),(4,[]),(5,[]),(6,[]),(7,[]),(8,[]),(9,[]),(13,[]),(14,[]),(10,[3,11]),(11,[]),(12,[]),(15,[3]),(16,[]),(17,[]),(18,[])])),(13,([0,1,0,4,0,28,60,124,255,511,0,1024,0,7168,15360,31744,64512,131071,262143,524287],[(0,[]),(1,[]),(2,[]),(3,[]),(4,[]),(5,[]),(6,[]),(7,[]),(8,[]),(9,[]),(10,[]),(11,[]),(12,[]),(13,[]),(14,[]),(15,[]),(16,[3,7]),(17,[]),(18,[]),(19,[])]))] false) Tryd.f42=some ir42:=by kernel_rfl
def ir44:IFn:=⟨120,[.tmp 4 false],
.seq (.reg [d 3 (.box (t 1) false),
d 4 (.mv (w 0))])
(.seq (.seq (.reg [q 7 3 0,
l 8 7])
(.block 0
(.seq (.reg [b 10 .eql (t 8) (i 1),
m 9 10])
(.cond (t 9)
(.seq (.reg [q 11 3 2,
l 12 11,
m 4 12])
.ret)
(.seq (.reg [b 14 .eql (t 8) (i 2),
m 13 14])
(.cond (t 13)
(.seq (.draw [(m 15 0,0,[]),
(d 16 (.nilc (t 15)),1,[]),
(q 17 16 0,2,[]),
(l 18 17,3,[]),
(q 19 3 3,4,[]),
(l 20 19,5,[]),
(d 21 (.lkp .s (t 18) (t 20) w0 false),6,[]),
(m 4 21,7,[])])
.ret)
(.seq (.reg [b 23 .eql (t 8) (i 3),
m 22 23])
(.cond (t 22)
(.seq (.draw [(m 24 0,0,[]),
(d 25 (.nilc (t 24)),1,[]),
(q 26 25 1,2,[]),
(l 27 26,3,[]),
(q 28 3 3,4,[]),
(l 29 28,5,[]),
(d 30 (.lkp .s (t 27) (t 29) (.vec [] .full) false),6,[]),
(m 31 0,7,[]),
(q 32 3 4,8,[]),
(l 33 32,9,[]),
(d 34 (.idxS (t 33) (i 0) 5),10,[]),
(d 35 (.load (t 34) 5 true),11,[]),
(k 36 44 [t 31,t 35],12,[3,5,6]),
(d 37 (.idxS (t 30) (t 36) 1),13,[]),
(l 38 37,14,[]),
(m 4 38,15,[])])
.ret)
(.seq (.reg [b 40 .eql (t 8) (i 5),
m 39 40])
(.cond (t 39)
(.seq (.reg [m 41 0,
q 42 3 4,
l 43 42,
d 44 (.idxS (t 43) (i 0) 5),
d 45 (.load (t 44) 5 true),
k 46 44 [t 41,t 45],
b 47 .sub (w 1) (t 46),
m 4 47])
.ret)
(.seq (.reg [b 49 .eql (t 8) (i 6),
m 48 49])
(.cond (t 48)
(.seq (.seq (.reg [m 50 0,
q 51 3 4,
l 52 51,
d 53 (.idxS (t 52) (i 0) 5),
d 54 (.load (t 53) 5 true),
k 55 44 [t 50,t 54],
b 56 .eql (t 55) (w 1)])
(.cond (t 56)
(.seq (.reg [m 57 0,
q 58 3 4,
l 59 58,
d 60 (.idxS (t 59) (i 1) 5),
d 61 (.load (t 60) 5 true),
k 62 44 [t 57,t 61],
m 4 62])
.ret)
.skip))
(.seq (.reg [m 63 0,
q 64 3 4,
l 65 64,
d 66 (.idxS (t 65) (i 2) 5),
d 67 (.load (t 66) 5 true),
k 68 44 [t 63,t 67],
m 4 68])
.ret))
.skip))))))))))))
(.seq (.draw [(m 69 0,0,[]),
(q 70 3 4,1,[]),
(l 71 70,2,[]),
(d 72 (.idxS (t 71) (i 0) 5),3,[]),
(d 73 (.load (t 72) 5 true),4,[]),
(m 75 0,6,[]),
(q 76 3 4,7,[]),
(l 77 76,8,[]),
(d 78 (.idxS (t 77) (i 1) 5),9,[]),
(d 79 (.load (t 78) 5 true),10,[]),
(k 74 44 [t 69,t 73],5,[7,9]),
(k 80 44 [t 75,t 79],11,[]),
(m 5 74,12,[]),
(m 6 80,13,[])])
(.seq (.seq (.reg [q 81 3 1,
l 82 81])
(.block 1
(.seq (.reg [b 84 .eql (t 82) (i 1),
m 83 84])
(.cond (t 83)
(.seq (.reg [m 85 5,
m 86 6,
b 87 .add (t 85) (t 86),
m 4 87])
.ret)
(.seq (.reg [b 89 .eql (t 82) (i 2),
m 88 89])
(.cond (t 88)
(.seq (.reg [m 90 5,
m 91 5,
m 92 6,
d 93 (.min [t 91,t 92]),
b 94 .sub (t 90) (t 93),
m 4 94])
.ret)
(.seq (.reg [b 96 .eql (t 82) (i 3),
m 95 96])
(.cond (t 95)
(.seq (.reg [m 97 5,
m 98 6,
b 99 .mul (t 97) (t 98),
m 4 99])
.ret)
(.seq (.reg [b 101 .eql (t 82) (i 4),
m 100 101])
(.cond (t 100)
(.seq (.reg [m 102 5,
m 103 6,
b 104 .lss (t 102) (t 103),
k 105 62 [t 104],
m 4 105])
.ret)
(.seq (.reg [b 107 .eql (t 82) (i 5),
m 106 107])
(.cond (t 106)
(.seq (.reg [m 108 5,
m 109 6,
b 110 .eql (t 108) (t 109),
k 111 62 [t 110],
m 4 111])
.ret)
(.seq (.reg [b 113 .eql (t 82) (i 6),
m 112 113])
(.cond (t 112)
(.seq (.reg [m 114 5,
m 115 6,
b 116 .and (t 114) (t 115),
m 4 116])
.ret)
.skip))))))))))))))
(.seq (.reg [m 117 5,
m 118 6,
b 119 .or (t 117) (t 118),
m 4 119])
.ret))))⟩
theorem tr44:trF Tryd.prog (h [] [] [] [(5,([0,1,3,7,0,16,63,127],[(0,[]),(1,[]),(2,[]),(3,[]),(4,[]),(5,[]),(6,[]),(7,[])])),(7,([0,1,3,7,0,16,63,0,0,256,768,1792,3968,8191,16383,32767],[(0,[]),(1,[]),(2,[]),(3,[]),(4,[]),(5,[]),(6,[]),(7,[]),(8,[]),(9,[]),(10,[]),(11,[]),(12,[3,5,6]),(13,[]),(14,[]),(15,[])])),(14,([0,0,2,6,14,31,0,0,128,384,896,2047,4095,8191],[(0,[]),(1,[]),(2,[]),(3,[]),(4,[]),(6,[]),(7,[]),(8,[]),(9,[]),(10,[]),(5,[7,9]),(11,[]),(12,[]),(13,[])]))] false) Tryd.f44=some ir44:=by kernel_rfl
def ir45:IFn:=⟨48,[],
.seq (.reg [d 3 (.box (t 1) false)])
(.seq (.draw [(m 7 0,0,[]),
(q 8 3 2,1,[]),
(l 9 8,2,[]),
(d 10 (.idxS (t 9) (i 0) 5),3,[]),
(d 11 (.load (t 10) 5 true),4,[]),
(m 13 0,6,[]),
(q 14 3 2,7,[]),
(l 15 14,8,[]),
(d 16 (.idxS (t 15) (i 1) 5),9,[]),
(d 17 (.load (t 16) 5 true),10,[]),
(k 12 44 [t 7,t 11],5,[7,9]),
(k 18 44 [t 13,t 17],11,[]),
(m 4 12,12,[]),
(m 5 18,13,[])])
(.seq (.draw [(m 19 0,0,[]),
(d 20 (.nilc (t 19)),1,[]),
(q 21 20 0,2,[]),
(l 22 21,3,[]),
(q 23 3 1,4,[]),
(l 24 23,5,[]),
(⟨none,none,.mdel .s (t 22) (t 24)⟩,6,[])])
(.seq (.seq (.reg [m 25 4,
m 6 25])
(.block 0
(.loop [0,3,5,6]
(.seq (.seq (.reg [m 26 6,
m 27 5,
b 28 .leq (t 26) (t 27)])
(.cond (t 28)
.skip
(.brk 0)))
(.seq (.block 1
(.seq (.draw [(m 31 0,0,[]),
(d 32 (.nilc (t 31)),1,[]),
(q 33 32 0,2,[]),
(l 34 33,3,[]),
(q 35 3 1,4,[]),
(l 36 35,5,[]),
(m 37 6,6,[]),
(⟨none,none,.mup .s (t 34) (t 36) (t 37)⟩,7,[])])
(.reg [m 38 0,
q 39 3 3,
l 40 39,
k 41 30 [t 38,t 40]])))
(.reg [m 29 6,
b 30 .add (t 29) (w 1),
m 6 30]))))))
(.draw [(m 42 0,0,[]),
(d 43 (.nilc (t 42)),1,[]),
(q 44 43 0,2,[]),
(l 45 44,3,[]),
(q 46 3 1,4,[]),
(l 47 46,5,[]),
(⟨none,none,.mdel .s (t 45) (t 47)⟩,6,[])]))))⟩
theorem tr45:trF Tryd.prog (h [] [] [[0,3,5,6]] [(1,([0,0,2,6,14,31,0,0,128,384,896,2047,4095,8191],[(0,[]),(1,[]),(2,[]),(3,[]),(4,[]),(6,[]),(7,[]),(8,[]),(9,[]),(10,[]),(5,[7,9]),(11,[]),(12,[]),(13,[])])),(2,([0,1,3,7,0,16,63],[(0,[]),(1,[]),(2,[]),(3,[]),(4,[]),(5,[]),(6,[])])),(6,([0,1,3,7,0,16,0,127],[(0,[]),(1,[]),(2,[]),(3,[]),(4,[]),(5,[]),(6,[]),(7,[])])),(8,([0,1,3,7,0,16,63],[(0,[]),(1,[]),(2,[]),(3,[]),(4,[]),(5,[]),(6,[])]))] false) Tryd.f45=some ir45:=by kernel_rfl
def ir46:IFn:=⟨11,[.tmp 2 false],
.seq (.reg [d 1 (.box (t 0) false),
d 2 (.mv (i 0))])
(.seq (.reg [d 6 (.load (t 1) 3 true),
k 7 63 [t 6],
m 5 7,
d 8 (.ext (t 5) 0),
d 9 (.ext (t 5) 1),
m 3 8,
m 4 9])
(.seq (.reg [m 10 4,
m 2 10])
.ret))⟩
theorem tr46:trF Tryd.prog h0 Tryd.f46=some ir46:=by kernel_rfl
def ir47:IFn:=⟨20,[.tmp 4 false],
.seq (.reg [d 4 (.mv (i 0))])
(.seq (.seq (.reg [m 6 0,
d 7 (.len .i (t 6)),
b 8 .sub (t 7) (i 1),
m 5 8])
(.block 0
(.loop [0,1,5]
(.seq (.seq (.reg [m 9 5,
b 10 .geq (t 9) (i 0)])
(.cond (t 10)
.skip
(.brk 0)))
(.seq (.block 1
(.seq (.reg [m 13 0,
m 14 5,
d 15 (.idxS (t 13) (t 14) 1),
l 16 15,
m 17 1,
b 18 .eql (t 16) (t 17)])
(.cond (t 18)
(.seq (.reg [m 19 5,
m 4 19])
.ret)
.skip)))
(.reg [m 11 5,
b 12 .sub (t 11) (i 1),
m 5 12]))))))
(.seq (.reg [d 4 (.mv (.cst (.int .i64 (-1))))])
.ret))⟩
theorem tr47:trF Tryd.prog (h [] [] [[0,1,5]] [] false) Tryd.f47=some ir47:=by kernel_rfl
def ir48:IFn:=⟨94,[.tmp 4 false],
.seq (.reg [d 3 (.box (t 1) false),
d 4 (.mv (w 0))])
(.seq (.seq (.reg [q 5 3 0,
l 6 5])
(.block 0
(.seq (.reg [b 8 .eql (t 6) (i 1),
m 7 8])
(.cond (t 7)
(.seq (.reg [q 9 3 2,
l 10 9,
m 4 10])
.ret)
(.seq (.reg [b 12 .eql (t 6) (i 2),
m 11 12])
(.cond (t 11)
(.seq (.draw [(m 13 0,0,[]),
(d 14 (.nilc (t 13)),1,[]),
(q 15 14 1,2,[]),
(l 16 15,3,[]),
(m 17 0,4,[]),
(d 18 (.nilc (t 17)),5,[]),
(q 19 18 0,6,[]),
(l 20 19,7,[]),
(q 21 3 3,8,[]),
(l 22 21,9,[]),
(k 23 47 [t 20,t 22],10,[3]),
(d 24 (.idxS (t 16) (t 23) 1),11,[]),
(l 25 24,12,[]),
(m 4 25,13,[])])
.ret)
(.seq (.reg [b 27 .eql (t 6) (i 3),
m 26 27])
(.cond (t 26)
(.seq (.draw [(m 28 0,0,[]),
(d 29 (.nilc (t 28)),1,[]),
(q 30 29 3,2,[]),
(l 31 30,3,[]),
(m 32 0,4,[]),
(d 33 (.nilc (t 32)),5,[]),
(q 34 33 2,6,[]),
(l 35 34,7,[]),
(q 36 3 3,8,[]),
(l 37 36,9,[]),
(m 41 0,13,[]),
(q 42 3 4,14,[]),
(l 43 42,15,[]),
(d 44 (.idxS (t 43) (i 0) 5),16,[]),
(d 45 (.load (t 44) 5 true),17,[]),
(k 38 47 [t 35,t 37],10,[3,12,14]),
(d 39 (.idxS (t 31) (t 38) 1),11,[]),
(l 40 39,12,[]),
(k 46 48 [t 41,t 45],18,[3,17]),
(d 47 (.idxS (t 40) (t 46) 1),19,[]),
(l 48 47,20,[]),
(m 4 48,21,[])])
.ret)
(.seq (.reg [b 50 .eql (t 6) (i 4),
m 49 50])
(.cond (t 49)
(.seq (.draw [(q 51 3 1,0,[]),
(l 52 51,1,[]),
(m 53 0,2,[]),
(q 54 3 4,3,[]),
(l 55 54,4,[]),
(d 56 (.idxS (t 55) (i 0) 5),5,[]),
(d 57 (.load (t 56) 5 true),6,[]),
(m 59 0,8,[]),
(q 60 3 4,9,[]),
(l 61 60,10,[]),
(d 62 (.idxS (t 61) (i 1) 5),11,[]),
(d 63 (.load (t 62) 5 true),12,[]),
(k 58 48 [t 53,t 57],7,[1,9,11]),
(k 64 48 [t 59,t 63],13,[1]),
(k 65 64 [t 52,t 58,t 64],14,[]),
(m 4 65,15,[])])
.ret)
(.seq (.reg [b 67 .eql (t 6) (i 5),
m 66 67])
(.cond (t 66)
(.seq (.reg [m 68 0,
q 69 3 4,
l 70 69,
d 71 (.idxS (t 70) (i 0) 5),
d 72 (.load (t 71) 5 true),
k 73 48 [t 68,t 72],
b 74 .sub (w 1) (t 73),
m 4 74])
.ret)
.skip))))))))))))
(.seq (.seq (.reg [m 75 0,
q 76 3 4,
l 77 76,
d 78 (.idxS (t 77) (i 0) 5),
d 79 (.load (t 78) 5 true),
k 80 48 [t 75,t 79],
b 81 .neq (t 80) (w 0)])
(.cond (t 81)
(.seq (.reg [m 82 0,
q 83 3 4,
l 84 83,
d 85 (.idxS (t 84) (i 1) 5),
d 86 (.load (t 85) 5 true),
k 87 48 [t 82,t 86],
m 4 87])
.ret)
.skip))
(.seq (.reg [m 88 0,
q 89 3 4,
l 90 89,
d 91 (.idxS (t 90) (i 2) 5),
d 92 (.load (t 91) 5 true),
k 93 48 [t 88,t 92],
m 4 93])
.ret)))⟩
theorem tr48:trF Tryd.prog (h [] [] [] [(5,([0,1,3,7,0,16,48,112,0,256,1008,2047,4095,8191],[(0,[]),(1,[]),(2,[]),(3,[]),(4,[]),(5,[]),(6,[]),(7,[]),(8,[]),(9,[]),(10,[3]),(11,[]),(12,[]),(13,[])])),(7,([0,1,3,7,0,16,48,112,0,256,1008,2047,4095,0,0,16384,49152,114688,255984,524287,1048575,2097151],[(0,[]),(1,[]),(2,[]),(3,[]),(4,[]),(5,[]),(6,[]),(7,[]),(8,[]),(9,[]),(13,[]),(14,[]),(15,[]),(16,[]),(17,[]),(10,[3,12,14]),(11,[]),(12,[]),(18,[3,17]),(19,[]),(20,[]),(21,[])])),(9,([0,1,0,0,8,24,56,124,0,0,512,1536,3584,8188,16383,32767],[(0,[]),(1,[]),(2,[]),(3,[]),(4,[]),(5,[]),(6,[]),(8,[]),(9,[]),(10,[]),(11,[]),(12,[]),(7,[1,9,11]),(13,[1]),(14,[]),(15,[])]))] false) Tryd.f48=some ir48:=by kernel_rfl
def ir49:IFn:=⟨51,[],
.seq (.reg [m 5 0,
d 6 (.nilc (t 5)),
q 7 6 0,
l 8 7,
m 9 1,
k 10 47 [t 8,t 9],
m 4 10])
(.seq (.reg [m 11 4,
b 12 .geq (t 11) (i 0)])
(.cond (t 12)
(.draw [(m 13 0,0,[]),
(m 14 0,1,[]),
(d 15 (.bsl 0 1 false [s0] []),2,[]),
(m 16 0,3,[]),
(d 17 (.nilc (t 16)),4,[]),
(q 18 17 0,5,[]),
(l 19 18,6,[]),
(m 20 4,7,[]),
(d 21 (.slc (t 19) none (some (t 20)) none 1),8,[]),
(m 23 0,10,[]),
(d 24 (.nilc (t 23)),11,[]),
(q 25 24 0,12,[]),
(l 26 25,13,[]),
(m 27 4,14,[]),
(b 28 .add (t 27) (i 1),15,[]),
(d 29 (.slc (t 26) (some (t 28)) none none 1),16,[]),
(d 31 (.bsl 0 1 false [w0] []),18,[]),
(m 32 0,19,[]),
(d 33 (.nilc (t 32)),20,[]),
(q 34 33 1,21,[]),
(l 35 34,22,[]),
(m 36 4,23,[]),
(d 37 (.slc (t 35) none (some (t 36)) none 1),24,[]),
(m 39 0,26,[]),
(d 40 (.nilc (t 39)),27,[]),
(q 41 40 1,28,[]),
(l 42 41,29,[]),
(m 43 4,30,[]),
(b 44 .add (t 43) (i 1),31,[]),
(d 45 (.slc (t 42) (some (t 44)) none none 1),32,[]),
(d 22 (.app (t 15) (t 21) 1 16 false true),9,[12,20,26]),
(d 30 (.app (t 22) (t 29) 1 16 false true),17,[20,26]),
(d 38 (.app (t 31) (t 37) 1 8 false true),25,[26]),
(d 46 (.app (t 38) (t 45) 1 8 false true),33,[]),
(d 47 (.nilc (t 13)),34,[]),
(q 48 47 0,35,[]),
(⟨none,none,.store (t 48) (t 30) 1⟩,36,[]),
(d 49 (.nilc (t 14)),37,[]),
(q 50 49 1,38,[]),
(⟨none,none,.store (t 50) (t 46) 1⟩,39,[])])
.skip))⟩
theorem tr49:trF Tryd.prog (h [22,30,38,46] [] [] [(2,([0,0,0,0,8,24,56,0,248,508,0,1024,3072,7168,0,16384,64512,131068,0,0,524288,1572864,3670016,0,16252928,33554428,0,67108864,201326592,469762048,0,1073741824,4227858432,8589934588,17179869181,34359738365,68719476733,137438953471,274877906943,549755813887],[(0,[]),(1,[]),(2,[]),(3,[]),(4,[]),(5,[]),(6,[]),(7,[]),(8,[]),(10,[]),(11,[]),(12,[]),(13,[]),(14,[]),(15,[]),(16,[]),(18,[]),(19,[]),(20,[]),(21,[]),(22,[]),(23,[]),(24,[]),(26,[]),(27,[]),(28,[]),(29,[]),(30,[]),(31,[]),(32,[]),(9,[12,20,26]),(17,[20,26]),(25,[26]),(33,[]),(34,[]),(35,[]),(36,[]),(37,[]),(38,[]),(39,[])]))] false) Tryd.f49=some ir49:=by kernel_rfl
def ir50:IFn:=⟨6,[.tmp 2 false],
.seq (.reg [d 2 (.mv (i 0))])
(.seq (.reg [m 3 0,
k 4 65 [t 3],
d 5 (.max [t 4,i 1]),
m 2 5])
.ret)⟩
theorem tr50:trF Tryd.prog h0 Tryd.f50=some ir50:=by kernel_rfl
def ir51:IFn:=⟨9,[],
.draw [(m 6 2,0,[]),
(d 7 (.asrt 93 (t 6)),1,[]),
(d 8 (.fld (t 7) 0 1 false),2,[]),
(⟨none,none,.store (t 0) (i 0) 1⟩,3,[]),
(⟨none,none,.store (t 1) (t 8) 1⟩,4,[])]⟩
def hs51:Hints:={ obj:=[],bare:=[],loops:=[],draws:=[(2,([0,1,3,0,15],[(0,[]),(1,[]),(2,[]),(3,[]),(4,[])]))],glob:=Zik,fresh:=false }
def ir52:IFn:=⟨45,[.tmp 4 false],
.seq (.reg [d 4 (.mv (.cst (.bool false)))])
(.seq (.reg [m 12 0,
d 13 (.nilc (t 12)),
q 14 13 0,
l 15 14,
m 16 1,
d 17 (.lkp .s (t 15) (t 16) (.agg [s0,i0,i0,i0]) true),
m 11 17,
d 18 (.ext (t 11) 0),
d 19 (.ext (t 11) 1),
d 5 (.allocz [s0,i0,i0,i0] false),
⟨none,none,.store (t 5) (t 18) 4⟩,
m 6 19])
(.seq (.reg [m 21 0,
d 22 (.nilc (t 21)),
q 23 22 1,
l 24 23,
m 25 1,
d 26 (.lkp .s (t 24) (t 25) i0 true),
m 20 26,
d 27 (.ext (t 20) 0),
d 28 (.ext (t 20) 1),
m 7 27,
m 8 28])
(.seq (.reg [m 30 0,
d 31 (.nilc (t 30)),
q 32 31 4,
l 33 32,
m 34 1,
d 35 (.lkp .s (t 33) (t 34) (.agg [i0,i0,(.bool false),w0]) true),
m 29 35,
d 36 (.ext (t 29) 0),
d 37 (.ext (t 29) 1),
d 9 (.allocz [i0,i0,(.bool false),w0] false),
⟨none,none,.store (t 9) (t 36) 4⟩,
m 10 37])
(.seq (.reg [m 38 6,
m 39 38,
⟨some 40,some (39,false),.mv (t 8)⟩,
d 41 (.pick (t 39) (.cst (.bool true)) (t 40)),
m 42 41,
⟨some 43,some (42,false),.mv (t 10)⟩,
d 44 (.pick (t 42) (.cst (.bool true)) (t 43)),
m 4 44])
.ret))))⟩
theorem tr52:trF Tryd.prog h0 Tryd.f52=some ir52:=by kernel_rfl
def ir53:IFn:=⟨5,[],
.reg [m 2 0,
d 3 (.bld [i0] [(0,1,(t 2))]),
d 4 (.mkI 93 (t 3)),
⟨none,none,.pan (t 4)⟩]⟩
theorem tr53:trF Tryd.prog h0 Tryd.f53=some ir53:=by kernel_rfl
def ir54:IFn:=⟨22,[],
.seq (.reg [m 6 1,
d 7 (.len .i (t 6)),
d 8 (.mv (i 0))])
(.block 0
(.loop [0,6,7,8]
(.seq (.reg [b 9 .lss (t 8) (t 7)])
(.seq (.cond (t 9)
.skip
(.brk 0))
(.seq (.block 1
(.seq (.reg [d 10 (.idxS (t 6) (t 8) 5),
d 11 (.load (t 10) 5 true),
d 5 (.allocz [i0,s0,(.vec [] .full),(.vec [] .full),(.vec [] .full)] false),
⟨none,none,.store (t 5) (t 11) 5⟩])
(.seq (.reg [m 12 0,
k 13 66 [t 12]])
(.draw [(m 14 0,0,[]),
(d 15 (.load (t 5) 5 true),1,[]),
(m 16 0,2,[]),
(q 17 5 2,3,[]),
(l 18 17,4,[]),
(k 19 68 [t 16,t 18],5,[1]),
(k 20 67 [t 14,t 15,t 19],6,[])]))))
(.reg [b 21 .add (t 8) (i 1),
m 8 21]))))))⟩
theorem tr54:trF Tryd.prog (h [] [] [[0,6,7,8]] [(4,([0,0,0,0,8,28,63],[(0,[]),(1,[]),(2,[]),(3,[]),(4,[]),(5,[1]),(6,[])]))] false) Tryd.f54=some ir54:=by kernel_rfl
def ir55:IFn:=⟨34,[.tmp 6 false],
.seq (.reg [d 6 (.mv (i 0))])
(.seq (.reg [m 8 2,
m 9 0,
d 10 (.len .i (t 9)),
b 11 .sub (t 8) (t 10),
m 2 11])
(.seq (.seq (.reg [d 7 (.mv (i 0))])
(.block 0
(.loop [0,1,2,7]
(.seq (.seq (.reg [m 12 7,
m 13 0,
d 14 (.len .i (t 13)),
b 15 .lss (t 12) (t 14),
m 16 15,
⟨some 17,some (16,true),.mv (t 2)⟩,
⟨some 18,some (16,true),.bin .geq .plain (t 17) (i 0)⟩,
d 19 (.pick (t 16) (t 18) (.cst (.bool false)))])
(.cond (t 19)
.skip
(.brk 0)))
(.seq (.block 1
(.seq (.seq (.reg [m 22 1,
b 23 .gtr (t 22) (i 40)])
(.cond (t 23)
(.seq (.reg [d 6 (.mv (.cst (.int .i64 (-1))))])
.ret)
.skip))
(.reg [m 24 0,
m 25 7,
d 26 (.idxS (t 24) (t 25) 5),
q 27 26 4,
l 28 27,
m 29 1,
b 30 .add (t 29) (i 1),
m 31 2,
k 32 55 [t 28,t 30,t 31],
m 2 32])))
(.reg [m 20 7,
b 21 .add (t 20) (i 1),
m 7 21]))))))
(.seq (.reg [m 33 2,
m 6 33])
.ret)))⟩
theorem tr55:trF Tryd.prog (h [] [] [[0,1,2,7]] [] false) Tryd.f55=some ir55:=by kernel_rfl
def ir56:IFn:=⟨17,[.tmp 2 false],
.seq (.reg [d 2 (.mv (.cst (.bool false)))])
(.seq (.reg [m 3 0,
b 4 .geq (t 3) (.cst (.int .u8 97)),
m 5 4,
⟨some 6,some (5,true),.mv (t 0)⟩,
⟨some 7,some (5,true),.bin .leq .plain (t 6) (.cst (.int .u8 122))⟩,
d 8 (.pick (t 5) (t 7) (.cst (.bool false))),
m 9 8,
⟨some 10,some (9,false),.mv (t 0)⟩,
⟨some 11,some (9,false),.bin .geq .plain (t 10) (.cst (.int .u8 65))⟩,
⟨some 12,some (9,false),.mv (t 11)⟩,
⟨some 13,some (12,true),.mv (t 0)⟩,
⟨some 14,some (12,true),.bin .leq .plain (t 13) (.cst (.int .u8 90))⟩,
⟨some 15,some (9,false),.pick (t 12) (t 14) (.cst (.bool false))⟩,
d 16 (.pick (t 9) (.cst (.bool true)) (t 15)),
m 2 16])
.ret)⟩
theorem tr56:trF Tryd.prog h0 Tryd.f56=some ir56:=by kernel_rfl
def ir57:IFn:=⟨35,[.tmp 4 false],
.seq (.reg [d 4 (.mv (i 0))])
(.seq (.reg [d 5 (.mv (i 0))])
(.seq (.block 0
(.loop [0,1,5]
(.seq (.seq (.reg [m 6 5,
m 7 0,
d 8 (.len .s (t 7)),
b 9 .lss (t 6) (t 8),
m 10 9,
⟨some 11,some (10,true),.mv (t 0)⟩,
⟨some 12,some (10,true),.mv (t 5)⟩,
⟨some 13,some (10,true),.idxStr (t 11) (t 12)⟩,
⟨some 14,some (10,true),.call 69 [t 13]⟩,
⟨some 15,some (10,true),.mv (t 14)⟩,
⟨some 16,some (15,false),.mv (t 1)⟩,
⟨some 17,some (15,false),.un .not (t 16)⟩,
⟨some 18,some (15,false),.mv (t 17)⟩,
⟨some 19,some (18,true),.mv (t 0)⟩,
⟨some 20,some (18,true),.mv (t 5)⟩,
⟨some 21,some (18,true),.idxStr (t 19) (t 20)⟩,
⟨some 22,some (18,true),.call 56 [t 21]⟩,
⟨some 23,some (18,true),.mv (t 22)⟩,
⟨some 24,some (23,false),.mv (t 0)⟩,
⟨some 25,some (23,false),.mv (t 5)⟩,
⟨some 26,some (23,false),.idxStr (t 24) (t 25)⟩,
⟨some 27,some (23,false),.bin .eql .plain (t 26) (.cst (.int .u8 95))⟩,
⟨some 28,some (18,true),.pick (t 23) (.cst (.bool true)) (t 27)⟩,
⟨some 29,some (15,false),.pick (t 18) (t 28) (.cst (.bool false))⟩,
⟨some 30,some (10,true),.pick (t 15) (.cst (.bool true)) (t 29)⟩,
d 31 (.pick (t 10) (t 30) (.cst (.bool false)))])
(.cond (t 31)
.skip
(.brk 0)))
(.block 1
(.reg [m 32 5,
b 33 .add (t 32) (i 1),
m 5 33])))))
(.seq (.reg [m 34 5,
m 4 34])
.ret)))⟩
theorem tr57:trF Tryd.prog (h [] [] [[0,1,5]] [] false) Tryd.f57=some ir57:=by kernel_rfl
def ir58:IFn:=⟨18,[.tmp 2 false],
.seq (.reg [d 2 (.mv (.cst (.bool false)))])
(.seq (.reg [d 5 (.bsl 8 1 false [s0] [(0,1,(.cst (.str ⟨#[105,110]⟩))),(1,1,(.cst (.str ⟨#[102,114,111,109]⟩))),(2,1,(.cst (.str ⟨#[97,114,114,97,121]⟩))),(3,1,(.cst (.str ⟨#[105,102]⟩))),(4,1,(.cst (.str ⟨#[101,108,115,101]⟩))),(5,1,(.cst (.str ⟨#[102,111,114]⟩))),(6,1,(.cst (.str ⟨#[116,111]⟩))),(7,1,(.cst (.str ⟨#[111,117,116]⟩)))]),
m 3 5])
(.seq (.seq (.reg [d 4 (.mv (i 0))])
(.block 0
(.loop [0,3,4]
(.seq (.seq (.reg [m 6 4,
m 7 3,
d 8 (.len .i (t 7)),
b 9 .lss (t 6) (t 8)])
(.cond (t 9)
.skip
(.brk 0)))
(.seq (.block 1
(.seq (.reg [m 12 0,
m 13 3,
m 14 4,
d 15 (.idxS (t 13) (t 14) 1),
l 16 15,
b 17 .eql (t 12) (t 16)])
(.cond (t 17)
(.seq (.reg [d 2 (.mv (.cst (.bool true)))])
.ret)
.skip)))
(.reg [m 10 4,
b 11 .add (t 10) (i 1),
m 4 11]))))))
(.seq (.reg [d 2 (.mv (.cst (.bool false)))])
.ret)))⟩
theorem tr58:trF Tryd.prog (h [] [] [[0,3,4]] [] false) Tryd.f58=some ir58:=by kernel_rfl
def ir59:IFn:=⟨110,[.tmp 4 false],
.seq (.reg [d 2 (.box (t 0) false),
d 4 (.mv (.cst (.bool false)))])
(.seq (.seq (.reg [m 8 1,
b 9 .gtr (t 8) (i 24),
m 10 9,
⟨some 11,some (10,false),.fad (t 2) 0⟩,
⟨some 12,some (10,false),.load (t 11) 1 false⟩,
⟨some 13,some (10,false),.bin .lss .plain (t 12) (i 1)⟩,
d 14 (.pick (t 10) (.cst (.bool true)) (t 13)),
m 15 14,
⟨some 16,some (15,false),.fad (t 2) 0⟩,
⟨some 17,some (15,false),.load (t 16) 1 false⟩,
⟨some 18,some (15,false),.bin .gtr .plain (t 17) (i 5)⟩,
d 19 (.pick (t 15) (.cst (.bool true)) (t 18))])
(.cond (t 19)
(.seq (.reg [d 4 (.mv (.cst (.bool false)))])
.ret)
.skip))
(.seq (.reg [d 5 (.mv (i 1))])
(.seq (.seq (.reg [q 20 2 0,
l 21 20,
b 22 .eql (t 21) (i 2),
m 23 22,
⟨some 24,some (23,false),.fad (t 2) 0⟩,
⟨some 25,some (23,false),.load (t 24) 1 false⟩,
⟨some 26,some (23,false),.bin .eql .plain (t 25) (i 4)⟩,
d 27 (.pick (t 23) (.cst (.bool true)) (t 26))])
(.cond (t 27)
(.reg [d 5 (.mv (i 2))])
.skip))
(.seq (.reg [q 28 2 0,
l 29 28,
b 30 .neq (t 29) (i 3),
m 31 30,
⟨some 32,some (31,true),.fad (t 2) 0⟩,
⟨some 33,some (31,true),.load (t 32) 1 false⟩,
⟨some 34,some (31,true),.bin .neq .plain (t 33) (i 5)⟩,
d 35 (.pick (t 31) (t 34) (.cst (.bool false))),
m 6 35])
(.seq (.seq (.reg [q 36 2 2,
l 37 36,
d 38 (.len .i (t 37)),
m 39 5,
b 40 .neq (t 38) (t 39),
m 41 40,
⟨some 42,some (41,false),.mv (t 6)⟩,
⟨some 43,some (41,false),.mv (t 42)⟩,
⟨some 44,some (43,true),.fad (t 2) 1⟩,
⟨some 45,some (43,true),.load (t 44) 1 false⟩,
⟨some 46,some (43,true),.call 40 [t 45]⟩,
⟨some 47,some (43,true),.un .not (t 46)⟩,
⟨some 48,some (41,false),.pick (t 43) (t 47) (.cst (.bool false))⟩,
d 49 (.pick (t 41) (.cst (.bool true)) (t 48)),
m 50 49,
⟨some 51,some (50,false),.mv (t 6)⟩,
⟨some 52,some (50,false),.un .not (t 51)⟩,
⟨some 53,some (50,false),.mv (t 52)⟩,
⟨some 54,some (53,true),.fad (t 2) 1⟩,
⟨some 55,some (53,true),.load (t 54) 1 false⟩,
⟨some 56,some (53,true),.bin .neq .plain (t 55) (.cst s0)⟩,
⟨some 57,some (50,false),.pick (t 53) (t 56) (.cst (.bool false))⟩,
d 58 (.pick (t 50) (.cst (.bool true)) (t 57))])
(.cond (t 58)
(.seq (.reg [d 4 (.mv (.cst (.bool false)))])
.ret)
.skip))
(.seq (.seq (.reg [q 59 2 0,
l 60 59,
b 61 .neq (t 60) (i 3),
m 62 61,
⟨some 63,some (62,true),.fad (t 2) 4⟩,
⟨some 64,some (62,true),.load (t 63) 1 false⟩,
⟨some 65,some (62,true),.len .i (t 64)⟩,
⟨some 66,some (62,true),.bin .gtr .plain (t 65) (i 0)⟩,
d 67 (.pick (t 62) (t 66) (.cst (.bool false))),
m 68 67,
⟨some 69,some (68,false),.fad (t 2) 0⟩,
⟨some 70,some (68,false),.load (t 69) 1 false⟩,
⟨some 71,some (68,false),.bin .neq .plain (t 70) (i 3)⟩,
⟨some 72,some (68,false),.mv (t 71)⟩,
⟨some 73,some (72,true),.fad (t 2) 0⟩,
⟨some 74,some (72,true),.load (t 73) 1 false⟩,
⟨some 75,some (72,true),.bin .neq .plain (t 74) (i 4)⟩,
⟨some 76,some (68,false),.pick (t 72) (t 75) (.cst (.bool false))⟩,
⟨some 77,some (68,false),.mv (t 76)⟩,
⟨some 78,some (77,true),.fad (t 2) 3⟩,
⟨some 79,some (77,true),.load (t 78) 1 false⟩,
⟨some 80,some (77,true),.len .i (t 79)⟩,
⟨some 81,some (77,true),.bin .gtr .plain (t 80) (i 0)⟩,
⟨some 82,some (68,false),.pick (t 77) (t 81) (.cst (.bool false))⟩,
d 83 (.pick (t 68) (.cst (.bool true)) (t 82))])
(.cond (t 83)
(.seq (.reg [d 4 (.mv (.cst (.bool false)))])
.ret)
.skip))
(.seq (.seq (.reg [d 7 (.mv (i 0))])
(.block 0
(.loop [1,2,5,7]
(.seq (.seq (.reg [m 84 7,
m 85 5,
b 86 .lss (t 84) (t 85)])
(.cond (t 86)
.skip
(.brk 0)))
(.seq (.block 1
(.seq (.reg [q 89 2 2,
l 90 89,
m 91 7,
d 92 (.idxS (t 90) (t 91) 5),
d 93 (.load (t 92) 5 true),
m 94 1,
b 95 .add (t 94) (i 1),
k 96 70 [t 93,t 95],
d 97 (.un .not (t 96))])
(.cond (t 97)
(.seq (.reg [d 4 (.mv (.cst (.bool false)))])
.ret)
.skip)))
(.reg [m 87 7,
b 88 .add (t 87) (i 1),
m 7 88]))))))
(.seq (.reg [q 98 2 3,
l 99 98,
m 100 1,
b 101 .add (t 100) (i 1),
k 102 41 [t 99,t 101],
m 103 102,
⟨some 104,some (103,true),.fad (t 2) 4⟩,
⟨some 105,some (103,true),.load (t 104) 1 false⟩,
⟨some 106,some (103,true),.mv (t 1)⟩,
⟨some 107,some (103,true),.bin .add .plain (t 106) (i 1)⟩,
⟨some 108,some (103,true),.call 41 [t 105,t 107]⟩,
d 109 (.pick (t 103) (t 108) (.cst (.bool false))),
m 4 109])
.ret))))))))⟩
theorem tr59:trF Tryd.prog (h [] [] [[1,2,5,7]] [] false) Tryd.f59=some ir59:=by kernel_rfl
def ir60:IFn:=⟨6,[.tmp 2 false],
.seq (.reg [d 2 (.mv (.cst s0))])
(.seq (.reg [m 3 0,
d 4 (.cvI .u64 (t 3)),
k 5 71 [t 4],
m 2 5])
.ret)⟩
theorem tr60:trF Tryd.prog h0 Tryd.f60=some ir60:=by kernel_rfl
def ir61:IFn:=⟨141,[.tmp 4 false],
.seq (.reg [d 4 (.mv (.cst s0))])
(.seq (.reg [d 5 (.mv (.cst s0))])
(.seq (.seq (.reg [d 6 (.mv (i 0))])
(.block 0
(.loop [0,1,5,6]
(.seq (.seq (.reg [m 8 6,
m 9 0,
d 10 (.len .i (t 9)),
b 11 .lss (t 8) (t 10)])
(.cond (t 11)
.skip
(.brk 0)))
(.seq (.block 1
(.seq (.reg [m 14 0,
m 15 6,
d 16 (.idxS (t 14) (t 15) 5),
d 17 (.load (t 16) 5 true),
d 7 (.allocz [i0,s0,(.vec [] .full),(.vec [] .full),(.vec [] .full)] false),
⟨none,none,.store (t 7) (t 17) 5⟩])
(.seq (.reg [q 18 7 0,
l 19 18])
(.block 2
(.seq (.reg [b 52 .eql (t 19) (i 1),
m 51 52])
(.cond (t 51)
(.draw [(m 53 5,0,[]),
(m 54 1,1,[]),
(b 55 .add (t 53) (t 54),2,[]),
(q 56 7 1,3,[]),
(l 57 56,4,[]),
(b 58 .add (t 55) (t 57),5,[]),
(b 59 .add (t 58) (.cst (.str ⟨#[32,61,32]⟩)),6,[]),
(q 60 7 2,7,[]),
(l 61 60,8,[]),
(d 62 (.idxS (t 61) (i 0) 5),9,[]),
(d 63 (.load (t 62) 5 true),10,[]),
(k 64 72 [t 63],11,[4]),
(b 65 .add (t 59) (t 64),12,[]),
(b 66 .add (t 65) (.cst (.str ⟨#[59,10]⟩)),13,[]),
(m 5 66,14,[])])
(.seq (.reg [b 68 .eql (t 19) (i 2),
m 67 68])
(.cond (t 67)
(.draw [(m 69 5,0,[]),
(m 70 1,1,[]),
(b 71 .add (t 69) (t 70),2,[]),
(q 72 7 1,3,[]),
(l 73 72,4,[]),
(b 74 .add (t 71) (t 73),5,[]),
(b 75 .add (t 74) (.cst (.str ⟨#[91]⟩)),6,[]),
(q 76 7 2,7,[]),
(l 77 76,8,[]),
(d 78 (.idxS (t 77) (i 0) 5),9,[]),
(d 79 (.load (t 78) 5 true),10,[]),
(q 83 7 2,14,[]),
(l 84 83,15,[]),
(d 85 (.idxS (t 84) (i 1) 5),16,[]),
(d 86 (.load (t 85) 5 true),17,[]),
(k 80 72 [t 79],11,[4,12,14]),
(b 81 .add (t 75) (t 80),12,[]),
(b 82 .add (t 81) (.cst (.str ⟨#[93,32,61,32]⟩)),13,[]),
(k 87 72 [t 86],18,[4]),
(b 88 .add (t 82) (t 87),19,[]),
(b 89 .add (t 88) (.cst (.str ⟨#[59,10]⟩)),20,[]),
(m 5 89,21,[])])
(.seq (.reg [b 91 .eql (t 19) (i 5),
m 90 91])
(.cond (t 90)
(.reg [m 92 5,
m 93 1,
b 94 .add (t 92) (t 93),
b 95 .add (t 94) (.cst (.str ⟨#[111,117,116,32]⟩)),
q 96 7 2,
l 97 96,
d 98 (.idxS (t 97) (i 0) 5),
d 99 (.load (t 98) 5 true),
k 100 72 [t 99],
b 101 .add (t 95) (t 100),
b 102 .add (t 101) (.cst (.str ⟨#[59,10]⟩)),
m 5 102])
(.seq (.reg [b 104 .eql (t 19) (i 3),
m 103 104])
(.cond (t 103)
(.seq (.draw [(m 105 5,0,[]),
(m 106 1,1,[]),
(b 107 .add (t 105) (t 106),2,[]),
(b 108 .add (t 107) (.cst (.str ⟨#[105,102,32,40]⟩)),3,[]),
(q 109 7 2,4,[]),
(l 110 109,5,[]),
(d 111 (.idxS (t 110) (i 0) 5),6,[]),
(d 112 (.load (t 111) 5 true),7,[]),
(q 116 7 3,11,[]),
(l 117 116,12,[]),
(m 118 1,13,[]),
(b 119 .add (t 118) (.cst (.str ⟨#[32,32]⟩)),14,[]),
(k 113 72 [t 112],8,[9]),
(b 114 .add (t 108) (t 113),9,[]),
(b 115 .add (t 114) (.cst (.str ⟨#[41,32,123,10]⟩)),10,[]),
(k 120 61 [t 117,t 119],15,[]),
(b 121 .add (t 115) (t 120),16,[]),
(m 5 121,17,[])])
(.seq (.seq (.reg [q 122 7 4,
l 123 122,
d 124 (.len .i (t 123)),
b 125 .gtr (t 124) (i 0)])
(.cond (t 125)
(.reg [m 126 5,
m 127 1,
b 128 .add (t 126) (t 127),
b 129 .add (t 128) (.cst (.str ⟨#[125,32,101,108,115,101,32,123,10]⟩)),
q 130 7 4,
l 131 130,
m 132 1,
b 133 .add (t 132) (.cst (.str ⟨#[32,32]⟩)),
k 134 61 [t 131,t 133],
b 135 .add (t 129) (t 134),
m 5 135])
.skip))
(.reg [m 136 5,
m 137 1,
b 138 .add (t 136) (t 137),
b 139 .add (t 138) (.cst (.str ⟨#[125,10]⟩)),
m 5 139])))
(.draw [(m 20 5,0,[]),
(m 21 1,1,[]),
(b 22 .add (t 20) (t 21),2,[]),
(b 23 .add (t 22) (.cst (.str ⟨#[102,111,114,32]⟩)),3,[]),
(q 24 7 1,4,[]),
(l 25 24,5,[]),
(b 26 .add (t 23) (t 25),6,[]),
(b 27 .add (t 26) (.cst (.str ⟨#[32,61,32]⟩)),7,[]),
(q 28 7 2,8,[]),
(l 29 28,9,[]),
(d 30 (.idxS (t 29) (i 0) 5),10,[]),
(d 31 (.load (t 30) 5 true),11,[]),
(q 35 7 2,15,[]),
(l 36 35,16,[]),
(d 37 (.idxS (t 36) (i 1) 5),17,[]),
(d 38 (.load (t 37) 5 true),18,[]),
(q 42 7 3,22,[]),
(l 43 42,23,[]),
(m 44 1,24,[]),
(b 45 .add (t 44) (.cst (.str ⟨#[32,32]⟩)),25,[]),
(m 48 1,28,[]),
(k 32 72 [t 31],12,[5,13,15,17]),
(b 33 .add (t 27) (t 32),13,[]),
(b 34 .add (t 33) (.cst (.str ⟨#[32,116,111,32]⟩)),14,[]),
(k 39 72 [t 38],19,[5,17]),
(b 40 .add (t 34) (t 39),20,[]),
(b 41 .add (t 40) (.cst (.str ⟨#[32,123,10]⟩)),21,[]),
(k 46 61 [t 43,t 45],26,[5]),
(b 47 .add (t 41) (t 46),27,[]),
(b 49 .add (t 47) (t 48),29,[]),
(b 50 .add (t 49) (.cst (.str ⟨#[125,10]⟩)),30,[]),
(m 5 50,31,[])])))))))))))))
(.reg [m 12 6,
b 13 .add (t 12) (i 1),
m 6 13]))))))
(.seq (.reg [m 140 5,
m 4 140])
.ret)))⟩
theorem tr61:trF Tryd.prog (h [] [] [[0,1,5,6]] [(9,([0,0,3,0,8,31,63,0,128,384,896,1920,4095,8191,16383],[(0,[]),(1,[]),(2,[]),(3,[]),(4,[]),(5,[]),(6,[]),(7,[]),(8,[]),(9,[]),(10,[]),(11,[4]),(12,[]),(13,[]),(14,[])])),(11,([0,0,3,0,8,31,63,0,128,384,896,1920,4095,8191,0,16384,49152,114688,249728,524287,1048575,2097151],[(0,[]),(1,[]),(2,[]),(3,[]),(4,[]),(5,[]),(6,[]),(7,[]),(8,[]),(9,[]),(10,[]),(14,[]),(15,[]),(16,[]),(17,[]),(11,[4,12,14]),(12,[]),(13,[]),(18,[4]),(19,[]),(20,[]),(21,[])])),(15,([0,0,3,7,0,16,48,112,240,511,1023,0,2048,0,8192,31216,65535,131071],[(0,[]),(1,[]),(2,[]),(3,[]),(4,[]),(5,[]),(6,[]),(7,[]),(11,[]),(12,[]),(13,[]),(14,[]),(8,[9]),(9,[]),(10,[]),(15,[]),(16,[]),(17,[])])),(7,([0,0,3,7,0,16,63,127,0,256,768,1792,3840,8191,16383,0,32768,98304,229376,499456,1048575,2097151,0,4194304,0,16777216,63938304,134217727,0,536870911,1073741823,2147483647],[(0,[]),(1,[]),(2,[]),(3,[]),(4,[]),(5,[]),(6,[]),(7,[]),(8,[]),(9,[]),(10,[]),(11,[]),(15,[]),(16,[]),(17,[]),(18,[]),(22,[]),(23,[]),(24,[]),(25,[]),(28,[]),(12,[5,13,15,17]),(13,[]),(14,[]),(19,[5,17]),(20,[]),(21,[]),(26,[5]),(27,[]),(29,[]),(30,[]),(31,[])]))] false) Tryd.f61=some ir61:=by kernel_rfl
def ir62:IFn:=⟨4,[.tmp 2 false],
.seq (.reg [d 2 (.mv (w 0))])
(.seq (.seq (.reg [m 3 0])
(.cond (t 3)
(.seq (.reg [d 2 (.mv (w 1))])
.ret)
.skip))
(.seq (.reg [d 2 (.mv (w 0))])
.ret))⟩
theorem tr62:trF Tryd.prog h0 Tryd.f62=some ir62:=by kernel_rfl
def ir63:IFn:=⟨72,[.tmp 2 false,.tmp 3 false],
.seq (.reg [d 1 (.box (t 0) false),
d 2 (.mv (.cst .nilptr)),
d 3 (.mv (i 0))])
(.seq (.reg [d 9 (.load (t 1) 3 true),
d 10 (.bld [(.vec [] .full),(.vec [] .full),(.vec [] .full),(.vec [] .full),(.vec [] .full),(.vec [] .full),i0,i0,i0] [(0,3,(t 9))]),
d 11 (.box (t 10) true),
m 4 11])
(.seq (.seq (.reg [d 12 (.load (t 1) 3 true),
k 13 73 [t 12],
d 14 (.un .not (t 13))])
(.cond (t 14)
(.seq (.reg [m 15 4,
m 2 15,
d 3 (.mv (i 4))])
.ret)
.skip))
(.seq (.seq (.reg [d 5 (.mv (i 0))])
(.block 0
(.loop [1,4,5]
(.seq (.seq (.reg [m 16 5,
q 17 1 0,
l 18 17,
d 19 (.len .i (t 18)),
b 20 .lss (t 16) (t 19)])
(.cond (t 20)
.skip
(.brk 0)))
(.seq (.block 1
(.draw [(m 23 4,0,[]),
(m 24 4,1,[]),
(d 25 (.nilc (t 24)),2,[]),
(q 26 25 7,3,[]),
(l 27 26,4,[]),
(q 28 1 0,5,[]),
(l 29 28,6,[]),
(m 30 5,7,[]),
(d 31 (.idxS (t 29) (t 30) 4),8,[]),
(q 32 31 2,9,[]),
(l 33 32,10,[]),
(d 34 (.max [t 27,t 33]),11,[]),
(d 35 (.nilc (t 23)),12,[]),
(q 36 35 7,13,[]),
(⟨none,none,.store (t 36) (t 34) 1⟩,14,[])]))
(.reg [m 21 5,
b 22 .add (t 21) (i 1),
m 5 22]))))))
(.seq (.seq (.reg [d 6 (.mv (i 0))])
(.block 2
(.loop [1,4,6]
(.seq (.seq (.reg [m 37 6,
q 38 1 1,
l 39 38,
d 40 (.len .i (t 39)),
b 41 .lss (t 37) (t 40)])
(.cond (t 41)
.skip
(.brk 2)))
(.seq (.block 3
(.seq (.reg [d 7 (.mv (.cst (.vec [] .full)))])
(.seq (.seq (.reg [d 8 (.mv (i 0))])
(.block 4
(.loop [1,4,6,7,8]
(.seq (.seq (.reg [m 44 8,
q 45 1 1,
l 46 45,
m 47 6,
d 48 (.idxS (t 46) (t 47) 2),
q 49 48 1,
l 50 49,
b 51 .lss (t 44) (t 50)])
(.cond (t 51)
.skip
(.brk 4)))
(.seq (.block 5
(.reg [m 54 7,
d 55 (.bsl 1 1 false [i0] [(0,1,(i 1))]),
d 56 (.app (t 54) (t 55) 1 8 false true),
m 7 56]))
(.reg [m 52 8,
b 53 .add (t 52) (i 1),
m 8 53]))))))
(.reg [m 57 4,
m 58 4,
d 59 (.nilc (t 58)),
q 60 59 5,
l 61 60,
m 62 7,
d 63 (.bsl 1 1 false [v0] [(0,1,(t 62))]),
d 64 (.app (t 61) (t 63) 1 24 false true),
d 65 (.nilc (t 57)),
q 66 65 5,
⟨none,none,.store (t 66) (t 64) 1⟩]))))
(.reg [m 42 6,
b 43 .add (t 42) (i 1),
m 6 43]))))))
(.seq (.reg [m 67 4,
m 68 4,
q 69 1 2,
l 70 69,
k 71 74 [t 68,t 70],
m 2 67,
m 3 71])
.ret)))))⟩
theorem tr63:trF Tryd.prog (h [11,64,56,10] [] [[1,4,5],[1,4,6],[1,4,6,7,8]] [(7,([0,0,2,6,14,0,32,0,224,480,992,2046,4095,8191,16383],[(0,[]),(1,[]),(2,[]),(3,[]),(4,[]),(5,[]),(6,[]),(7,[]),(8,[]),(9,[]),(10,[]),(11,[]),(12,[]),(13,[]),(14,[])]))] false) Tryd.f63=some ir63:=by kernel_rfl
def ir64:IFn:=⟨46,[.tmp 6 false],
.seq (.reg [d 6 (.mv (w 0))])
(.seq (.seq (.reg [m 7 0])
(.block 0
(.seq (.reg [b 9 .eql (t 7) (i 1),
m 8 9])
(.cond (t 8)
(.seq (.reg [m 10 1,
m 11 2,
b 12 .add (t 10) (t 11),
m 6 12])
.ret)
(.seq (.reg [b 14 .eql (t 7) (i 2),
m 13 14])
(.cond (t 13)
(.seq (.seq (.reg [m 15 2,
m 16 1,
b 17 .gtr (t 15) (t 16)])
(.cond (t 17)
(.seq (.reg [d 6 (.mv (w 0))])
.ret)
.skip))
(.seq (.reg [m 18 1,
m 19 2,
b 20 .sub (t 18) (t 19),
m 6 20])
.ret))
(.seq (.reg [b 22 .eql (t 7) (i 3),
m 21 22])
(.cond (t 21)
(.seq (.reg [m 23 1,
m 24 2,
b 25 .mul (t 23) (t 24),
m 6 25])
.ret)
(.seq (.reg [b 27 .eql (t 7) (i 4),
m 26 27])
(.cond (t 26)
(.seq (.reg [m 28 1,
m 29 2,
b 30 .lss (t 28) (t 29),
k 31 75 [t 30],
m 6 31])
.ret)
(.seq (.reg [b 33 .eql (t 7) (i 5),
m 32 33])
(.cond (t 32)
(.seq (.reg [m 34 1,
m 35 2,
b 36 .eql (t 34) (t 35),
k 37 75 [t 36],
m 6 37])
.ret)
(.seq (.reg [b 39 .eql (t 7) (i 6),
m 38 39])
(.cond (t 38)
(.seq (.reg [m 40 1,
m 41 2,
b 42 .and (t 40) (t 41),
m 6 42])
.ret)
.skip))))))))))))))
(.seq (.reg [m 43 1,
m 44 2,
b 45 .or (t 43) (t 44),
m 6 45])
.ret))⟩
theorem tr64:trF Tryd.prog h0 Tryd.f64=some ir64:=by kernel_rfl
def ir65:IFn:=⟨25,[.tmp 2 false],
.seq (.reg [d 2 (.mv (i 0))])
(.seq (.seq (.reg [m 3 0,
b 4 .geq (t 3) (w 4294967296)])
(.cond (t 4)
(.seq (.reg [m 5 0,
b 6 .shr (t 5) (w 32),
m 0 6])
(.reg [d 2 (.mv (i 32))]))
.skip))
(.seq (.seq (.reg [m 7 0,
b 8 .geq (t 7) (w 65536)])
(.cond (t 8)
(.seq (.reg [m 9 0,
b 10 .shr (t 9) (w 16),
m 0 10])
(.reg [m 11 2,
b 12 .add (t 11) (i 16),
m 2 12]))
.skip))
(.seq (.seq (.reg [m 13 0,
b 14 .geq (t 13) (w 256)])
(.cond (t 14)
(.seq (.reg [m 15 0,
b 16 .shr (t 15) (w 8),
m 0 16])
(.reg [m 17 2,
b 18 .add (t 17) (i 8),
m 2 18]))
.skip))
(.seq (.reg [m 19 2,
m 20 0,
d 21 (.cvI .u8 (t 20)),
d 22 (.idxStr (.cst (.str bytes0)) (t 21)),
d 23 (.cvI .i64 (t 22)),
b 24 .add (t 19) (t 23),
m 2 24])
.ret))))⟩
theorem tr65:trF Tryd.prog h0 Tryd.f65=some ir65:=by kernel_rfl
def ir66:IFn:=⟨15,[],
.seq (.seq (.reg [m 2 0,
d 3 (.nilc (t 2)),
q 4 3 5,
l 5 4,
b 6 .geq (t 5) (i 10000)])
(.cond (t 6)
(.reg [k 7 53 [i 2]])
.skip))
(.reg [m 8 0,
d 9 (.nilc (t 8)),
q 10 9 5,
l 11 10,
b 12 .add (t 11) (i 1),
d 13 (.nilc (t 8)),
q 14 13 5,
⟨none,none,.store (t 14) (t 12) 1⟩])⟩
theorem tr66:trF Tryd.prog h0 Tryd.f66=some ir66:=by kernel_rfl
def ir67:IFn:=⟨101,[],
.seq (.reg [d 4 (.box (t 1) false)])
(.seq (.reg [q 9 4 0,
l 10 9])
(.block 0
(.seq (.reg [b 12 .eql (t 10) (i 1),
m 11 12])
(.cond (t 11)
(.seq (.seq (.reg [m 13 0,
q 14 4 1,
l 15 14,
k 16 52 [t 13,t 15]])
(.cond (t 16)
(.reg [k 17 53 [i 4]])
.skip))
(.draw [(m 18 0,0,[]),
(d 19 (.nilc (t 18)),1,[]),
(q 20 19 2,2,[]),
(l 21 20,3,[]),
(q 22 4 1,4,[]),
(l 23 22,5,[]),
(m 24 2,6,[]),
(d 25 (.idxS (t 24) (i 0) 4),7,[]),
(q 26 25 0,8,[]),
(l 27 26,9,[]),
(m 28 2,10,[]),
(d 29 (.idxS (t 28) (i 0) 4),11,[]),
(q 30 29 1,12,[]),
(l 31 30,13,[]),
(d 32 (.bld [i0,i0,(.bool false),w0] [(0,1,(t 27)),(1,1,(t 31))]),14,[]),
(⟨none,none,.mup .s (t 21) (t 23) (t 32)⟩,15,[])]))
(.seq (.reg [b 34 .eql (t 10) (i 2),
m 33 34])
(.cond (t 33)
(.seq (.draw [(m 36 0,0,[]),
(d 37 (.nilc (t 36)),1,[]),
(q 38 37 1,2,[]),
(l 39 38,3,[]),
(q 40 4 1,4,[]),
(l 41 40,5,[]),
(d 42 (.lkp .s (t 39) (t 41) i0 true),6,[]),
(m 35 42,7,[]),
(d 43 (.ext (t 35) 0),8,[]),
(d 44 (.ext (t 35) 1),9,[]),
(m 6 43,10,[]),
(m 7 44,11,[])])
(.seq (.seq (.reg [m 45 7,
d 46 (.un .not (t 45))])
(.cond (t 46)
(.reg [k 47 53 [i 4]])
.skip))
(.seq (.reg [m 48 2,
d 49 (.idxS (t 48) (i 0) 4),
d 50 (.load (t 49) 4 true),
m 51 6,
k 52 76 [t 50,t 51],
m 8 52])
(.seq (.reg [m 53 2,
d 54 (.idxS (t 53) (i 1) 4),
d 55 (.load (t 54) 4 true),
k 56 77 [t 55,i 1]])
(.draw [(m 57 0,0,[]),
(d 58 (.nilc (t 57)),1,[]),
(q 59 58 3,2,[]),
(l 60 59,3,[]),
(q 61 4 1,4,[]),
(l 62 61,5,[]),
(d 63 (.lkp .s (t 60) (t 62) (.vec [] .full) false),6,[]),
(m 64 8,7,[]),
(m 65 2,8,[]),
(d 66 (.idxS (t 65) (i 1) 4),9,[]),
(q 67 66 1,10,[]),
(l 68 67,11,[]),
(d 69 (.idxS (t 63) (t 64) 1),12,[]),
(⟨none,none,.store (t 69) (t 68) 1⟩,13,[])])))))
(.seq (.reg [b 71 .eql (t 10) (i 3),
m 70 71])
(.cond (t 70)
(.seq (.reg [m 72 2,
d 73 (.idxS (t 72) (i 0) 4),
d 74 (.load (t 73) 4 true),
k 75 77 [t 74,i 2]])
(.reg [m 76 0,
q 77 4 3,
l 78 77,
q 79 4 4,
l 80 79,
k 81 78 [t 76,t 78,t 80]]))
(.seq (.reg [b 83 .eql (t 10) (i 4),
m 82 83])
(.cond (t 82)
(.draw [(m 84 0,0,[]),
(d 85 (.load (t 4) 5 true),1,[]),
(m 86 2,2,[]),
(d 87 (.idxS (t 86) (i 0) 4),3,[]),
(d 88 (.load (t 87) 4 true),4,[]),
(m 89 2,5,[]),
(d 90 (.idxS (t 89) (i 1) 4),6,[]),
(d 91 (.load (t 90) 4 true),7,[]),
(k 92 79 [t 84,t 85,t 88,t 91],8,[])])
(.seq (.reg [b 94 .eql (t 10) (i 5),
m 93 94])
(.cond (t 93)
(.seq (.reg [m 95 0,
d 96 (.nilc (t 95)),
q 97 96 7,
l 98 97,
b 99 .gtr (t 98) (i 0)])
(.cond (t 99)
(.reg [k 100 53 [i 1]])
.skip))
.skip))))))))))))⟩
theorem tr67:trF Tryd.prog (h [] [] [] [(5,([0,1,3,7,0,16,0,64,192,448,0,1024,3072,7168,16320,32767],[(0,[]),(1,[]),(2,[]),(3,[]),(4,[]),(5,[]),(6,[]),(7,[]),(8,[]),(9,[]),(10,[]),(11,[]),(12,[]),(13,[]),(14,[]),(15,[])])),(7,([0,1,3,7,0,16,63,127,255,255,511,2047],[(0,[]),(1,[]),(2,[]),(3,[]),(4,[]),(5,[]),(6,[]),(7,[]),(8,[]),(9,[]),(10,[]),(11,[])])),(12,([0,1,3,7,0,16,63,0,0,256,768,1792,4095,8191],[(0,[]),(1,[]),(2,[]),(3,[]),(4,[]),(5,[]),(6,[]),(7,[]),(8,[]),(9,[]),(10,[]),(11,[]),(12,[]),(13,[])])),(17,([0,0,0,4,12,0,32,96,255],[(0,[]),(1,[]),(2,[]),(3,[]),(4,[]),(5,[]),(6,[]),(7,[]),(8,[])]))] false) Tryd.f67=some ir67:=by kernel_rfl
def ir68:IFn:=⟨22,[.tmp 4 false],
.seq (.reg [d 4 (.mv (.cst (.vec [] .full)))])
(.seq (.reg [d 5 (.mv (.cst (.vec [] .full)))])
(.seq (.seq (.reg [m 8 1,
d 9 (.len .i (t 8)),
d 10 (.mv (i 0))])
(.block 0
(.loop [0,5,8,9,10]
(.seq (.reg [b 11 .lss (t 10) (t 9)])
(.seq (.cond (t 11)
.skip
(.brk 0))
(.seq (.block 1
(.seq (.reg [d 12 (.idxS (t 8) (t 10) 5),
d 13 (.load (t 12) 5 true),
d 7 (.allocz [i0,i0,w0,s0,(.vec [] .full)] false),
⟨none,none,.store (t 7) (t 13) 5⟩])
(.reg [m 14 5,
m 15 0,
d 16 (.load (t 7) 5 true),
k 17 80 [t 15,t 16],
d 18 (.bsl 1 4 true [i0,i0,(.bool false),w0] [(0,4,(t 17))]),
d 19 (.app (t 14) (t 18) 4 32 true false),
m 5 19])))
(.reg [b 20 .add (t 10) (i 1),
m 10 20])))))))
(.seq (.reg [m 21 5,
m 4 21])
.ret)))⟩
theorem tr68:trF Tryd.prog (h [] [] [[0,5,8,9,10]] [] false) Tryd.f68=some ir68:=by kernel_rfl
def ir69:IFn:=⟨9,[.tmp 2 false],
.seq (.reg [d 2 (.mv (.cst (.bool false)))])
(.seq (.reg [m 3 0,
b 4 .geq (t 3) (.cst (.int .u8 48)),
m 5 4,
⟨some 6,some (5,true),.mv (t 0)⟩,
⟨some 7,some (5,true),.bin .leq .plain (t 6) (.cst (.int .u8 57))⟩,
d 8 (.pick (t 5) (t 7) (.cst (.bool false))),
m 2 8])
.ret)⟩
theorem tr69:trF Tryd.prog h0 Tryd.f69=some ir69:=by kernel_rfl
def ir70:IFn:=⟨93,[.tmp 4 false],
.seq (.reg [d 2 (.box (t 0) false),
d 4 (.mv (.cst (.bool false)))])
(.seq (.seq (.draw [(m 7 1,0,[]),
(b 8 .gtr (t 7) (i 24),1,[]),
(m 9 8,2,[]),
(⟨some 10,some (9,false),.load (t 2) 5 true⟩,3,[]),
(⟨some 12,some (9,false),.fad (t 2) 4⟩,5,[]),
(⟨some 13,some (9,false),.load (t 12) 1 false⟩,6,[]),
(⟨some 14,some (9,false),.len .i (t 13)⟩,7,[]),
(⟨some 11,some (9,false),.call 81 [t 10]⟩,4,[5,6]),
(⟨some 15,some (9,false),.bin .neq .plain (t 11) (t 14)⟩,8,[]),
(d 16 (.pick (t 9) (.cst (.bool true)) (t 15)),9,[])])
(.cond (t 16)
(.seq (.reg [d 4 (.mv (.cst (.bool false)))])
.ret)
.skip))
(.seq (.reg [q 17 2 0,
l 18 17,
b 19 .eql (t 18) (i 2),
m 20 19,
⟨some 21,some (20,false),.fad (t 2) 0⟩,
⟨some 22,some (20,false),.load (t 21) 1 false⟩,
⟨some 23,some (20,false),.bin .eql .plain (t 22) (i 3)⟩,
d 24 (.pick (t 20) (.cst (.bool true)) (t 23)),
m 5 24])
(.seq (.seq (.reg [m 25 5,
m 26 25,
⟨some 27,some (26,true),.fad (t 2) 3⟩,
⟨some 28,some (26,true),.load (t 27) 1 false⟩,
⟨some 29,some (26,true),.call 40 [t 28]⟩,
⟨some 30,some (26,true),.un .not (t 29)⟩,
d 31 (.pick (t 26) (t 30) (.cst (.bool false))),
m 32 31,
⟨some 33,some (32,false),.mv (t 5)⟩,
⟨some 34,some (32,false),.un .not (t 33)⟩,
⟨some 35,some (32,false),.mv (t 34)⟩,
⟨some 36,some (35,true),.fad (t 2) 3⟩,
⟨some 37,some (35,true),.load (t 36) 1 false⟩,
⟨some 38,some (35,true),.bin .neq .plain (t 37) (.cst s0)⟩,
⟨some 39,some (32,false),.pick (t 35) (t 38) (.cst (.bool false))⟩,
d 40 (.pick (t 32) (.cst (.bool true)) (t 39))])
(.cond (t 40)
(.seq (.reg [d 4 (.mv (.cst (.bool false)))])
.ret)
.skip))
(.seq (.seq (.reg [q 41 2 0,
l 42 41,
b 43 .eql (t 42) (i 4),
m 44 43,
⟨some 45,some (44,true),.fad (t 2) 1⟩,
⟨some 46,some (44,true),.load (t 45) 1 false⟩,
⟨some 47,some (44,true),.bin .lss .plain (t 46) (i 1)⟩,
⟨some 48,some (44,true),.mv (t 47)⟩,
⟨some 49,some (48,false),.fad (t 2) 1⟩,
⟨some 50,some (48,false),.load (t 49) 1 false⟩,
⟨some 51,some (48,false),.bin .gtr .plain (t 50) (i 7)⟩,
⟨some 52,some (44,true),.pick (t 48) (.cst (.bool true)) (t 51)⟩,
d 53 (.pick (t 44) (t 52) (.cst (.bool false))),
m 54 53,
⟨some 55,some (54,false),.fad (t 2) 0⟩,
⟨some 56,some (54,false),.load (t 55) 1 false⟩,
⟨some 57,some (54,false),.bin .neq .plain (t 56) (i 4)⟩,
⟨some 58,some (54,false),.mv (t 57)⟩,
⟨some 59,some (58,true),.fad (t 2) 1⟩,
⟨some 60,some (58,true),.load (t 59) 1 false⟩,
⟨some 61,some (58,true),.bin .neq .plain (t 60) (i 0)⟩,
⟨some 62,some (54,false),.pick (t 58) (t 61) (.cst (.bool false))⟩,
d 63 (.pick (t 54) (.cst (.bool true)) (t 62))])
(.cond (t 63)
(.seq (.reg [d 4 (.mv (.cst (.bool false)))])
.ret)
.skip))
(.seq (.seq (.reg [q 64 2 2,
l 65 64,
b 66 .gtr (t 65) (w 1152921504606846975),
m 67 66,
⟨some 68,some (67,false),.fad (t 2) 0⟩,
⟨some 69,some (67,false),.load (t 68) 1 false⟩,
⟨some 70,some (67,false),.bin .neq .plain (t 69) (i 1)⟩,
⟨some 71,some (67,false),.mv (t 70)⟩,
⟨some 72,some (71,true),.fad (t 2) 2⟩,
⟨some 73,some (71,true),.load (t 72) 1 false⟩,
⟨some 74,some (71,true),.bin .neq .plain (t 73) (w 0)⟩,
⟨some 75,some (67,false),.pick (t 71) (t 74) (.cst (.bool false))⟩,
d 76 (.pick (t 67) (.cst (.bool true)) (t 75))])
(.cond (t 76)
(.seq (.reg [d 4 (.mv (.cst (.bool false)))])
.ret)
.skip))
(.seq (.seq (.reg [d 6 (.mv (i 0))])
(.block 0
(.loop [1,2,6]
(.seq (.seq (.reg [m 77 6,
q 78 2 4,
l 79 78,
d 80 (.len .i (t 79)),
b 81 .lss (t 77) (t 80)])
(.cond (t 81)
.skip
(.brk 0)))
(.seq (.block 1
(.seq (.reg [q 84 2 4,
l 85 84,
m 86 6,
d 87 (.idxS (t 85) (t 86) 5),
d 88 (.load (t 87) 5 true),
m 89 1,
b 90 .add (t 89) (i 1),
k 91 70 [t 88,t 90],
d 92 (.un .not (t 91))])
(.cond (t 92)
(.seq (.reg [d 4 (.mv (.cst (.bool false)))])
.ret)
.skip)))
(.reg [m 82 6,
b 83 .add (t 82) (i 1),
m 6 83]))))))
(.seq (.reg [d 4 (.mv (.cst (.bool true)))])
.ret)))))))⟩
theorem tr70:trF Tryd.prog (h [] [] [[1,2,6]] [(1,([0,1,3,7,15,7,39,103,255,511],[(0,[]),(1,[]),(2,[]),(3,[]),(5,[]),(6,[]),(7,[]),(4,[5,6]),(8,[]),(9,[])]))] false) Tryd.f70=some ir70:=by kernel_rfl
def ir71:IFn:=⟨23,[.tmp 2 false],
.seq (.reg [d 2 (.mv (.cst s0))])
(.seq (.reg [m 4 0,
b 5 .rem (t 4) (w 10),
b 6 .add (w 48) (t 5),
d 7 (.cvI .u8 (t 6)),
d 8 (.bsl 1 1 false [(.int .u8 0)] [(0,1,(t 7))]),
d 9 (.cvB (t 8)),
m 3 9])
(.seq (.block 0
(.loop [0,3]
(.seq (.seq (.reg [m 10 0,
b 11 .geq (t 10) (w 10)])
(.cond (t 11)
.skip
(.brk 0)))
(.block 1
(.seq (.reg [m 12 0,
b 13 .quo (t 12) (w 10),
m 0 13])
(.reg [m 14 0,
b 15 .rem (t 14) (w 10),
b 16 .add (w 48) (t 15),
d 17 (.cvI .u8 (t 16)),
d 18 (.bsl 1 1 false [(.int .u8 0)] [(0,1,(t 17))]),
d 19 (.cvB (t 18)),
m 20 3,
b 21 .add (t 19) (t 20),
m 3 21]))))))
(.seq (.reg [m 22 3,
m 2 22])
.ret)))⟩
theorem tr71:trF Tryd.prog (h [] [] [[0,3]] [] false) Tryd.f71=some ir71:=by kernel_rfl
def ir72:IFn:=⟨78,[.tmp 2 false],
.seq (.reg [d 1 (.box (t 0) false),
d 2 (.mv (.cst s0))])
(.seq (.seq (.reg [q 4 1 0,
l 5 4])
(.block 0
(.seq (.reg [b 7 .eql (t 5) (i 1),
m 6 7])
(.cond (t 6)
(.seq (.reg [q 8 1 2,
l 9 8,
k 10 71 [t 9],
m 2 10])
.ret)
(.seq (.reg [b 12 .eql (t 5) (i 2),
m 11 12])
(.cond (t 11)
(.seq (.reg [q 13 1 3,
l 14 13,
m 2 14])
.ret)
(.seq (.reg [b 16 .eql (t 5) (i 3),
m 15 16])
(.cond (t 15)
(.seq (.draw [(q 17 1 3,0,[]),
(l 18 17,1,[]),
(b 19 .add (t 18) (.cst (.str ⟨#[91]⟩)),2,[]),
(q 20 1 4,3,[]),
(l 21 20,4,[]),
(d 22 (.idxS (t 21) (i 0) 5),5,[]),
(d 23 (.load (t 22) 5 true),6,[]),
(k 24 72 [t 23],7,[1]),
(b 25 .add (t 19) (t 24),8,[]),
(b 26 .add (t 25) (.cst (.str ⟨#[93]⟩)),9,[]),
(m 2 26,10,[])])
.ret)
(.seq (.reg [b 28 .eql (t 5) (i 5),
m 27 28])
(.cond (t 27)
(.seq (.reg [q 29 1 4,
l 30 29,
d 31 (.idxS (t 30) (i 0) 5),
d 32 (.load (t 31) 5 true),
k 33 82 [t 32,i 8],
b 34 .add (.cst (.str ⟨#[33]⟩)) (t 33),
m 2 34])
.ret)
(.seq (.reg [b 36 .eql (t 5) (i 6),
m 35 36])
(.cond (t 35)
(.seq (.draw [(q 37 1 4,0,[]),
(l 38 37,1,[]),
(d 39 (.idxS (t 38) (i 0) 5),2,[]),
(d 40 (.load (t 39) 5 true),3,[]),
(q 43 1 4,6,[]),
(l 44 43,7,[]),
(d 45 (.idxS (t 44) (i 1) 5),8,[]),
(d 46 (.load (t 45) 5 true),9,[]),
(q 50 1 4,13,[]),
(l 51 50,14,[]),
(d 52 (.idxS (t 51) (i 2) 5),15,[]),
(d 53 (.load (t 52) 5 true),16,[]),
(k 41 82 [t 40,i 2],4,[5,7,9,11]),
(b 42 .add (t 41) (.cst (.str ⟨#[32,63,32]⟩)),5,[]),
(k 47 72 [t 46],10,[9,11]),
(b 48 .add (t 42) (t 47),11,[]),
(b 49 .add (t 48) (.cst (.str ⟨#[32,58,32]⟩)),12,[]),
(k 54 72 [t 53],17,[]),
(b 55 .add (t 49) (t 54),18,[]),
(m 2 55,19,[])])
.ret)
.skip))))))))))))
(.seq (.reg [d 56 (.load (t 1) 5 true),
k 57 83 [t 56],
m 3 57])
(.seq (.draw [(q 58 1 4,0,[]),
(l 59 58,1,[]),
(d 60 (.idxS (t 59) (i 0) 5),2,[]),
(d 61 (.load (t 60) 5 true),3,[]),
(m 62 3,4,[]),
(q 65 1 1,7,[]),
(l 66 65,8,[]),
(q 70 1 4,12,[]),
(l 71 70,13,[]),
(d 72 (.idxS (t 71) (i 1) 5),14,[]),
(d 73 (.load (t 72) 5 true),15,[]),
(m 74 3,16,[]),
(b 75 .add (t 74) (i 1),17,[]),
(k 63 82 [t 61,t 62],5,[6,8,10]),
(b 64 .add (t 63) (.cst (.str ⟨#[32]⟩)),6,[]),
(k 67 84 [t 66],9,[8,10]),
(b 68 .add (t 64) (t 67),10,[]),
(b 69 .add (t 68) (.cst (.str ⟨#[32]⟩)),11,[]),
(k 76 82 [t 73,t 75],18,[]),
(b 77 .add (t 69) (t 76),19,[]),
(m 2 77,20,[])])
.ret)))⟩
theorem tr72:trF Tryd.prog (h [] [] [] [(7,([0,1,3,0,8,24,56,120,255,511,1023],[(0,[]),(1,[]),(2,[]),(3,[]),(4,[]),(5,[]),(6,[]),(7,[1]),(8,[]),(9,[]),(10,[])])),(11,([0,1,3,7,15,31,0,64,192,448,991,2047,4095,0,8192,24576,57344,124895,262143,524287],[(0,[]),(1,[]),(2,[]),(3,[]),(6,[]),(7,[]),(8,[]),(9,[]),(13,[]),(14,[]),(15,[]),(16,[]),(4,[5,7,9,11]),(5,[]),(10,[9,11]),(11,[]),(12,[]),(17,[]),(18,[]),(19,[])])),(13,([0,1,3,7,0,31,63,0,128,447,1023,2047,0,4096,12288,28672,0,65536,259007,524287,1048575],[(0,[]),(1,[]),(2,[]),(3,[]),(4,[]),(7,[]),(8,[]),(12,[]),(13,[]),(14,[]),(15,[]),(16,[]),(17,[]),(5,[6,8,10]),(6,[]),(9,[8,10]),(10,[]),(11,[]),(18,[]),(19,[]),(20,[])]))] false) Tryd.f72=some ir72:=by kernel_rfl
def ir73:IFn:=⟨60,[.tmp 2 false],
.seq (.reg [d 1 (.box (t 0) false),
d 2 (.mv (.cst (.bool false)))])
(.seq (.reg [d 3 (.mv (.cst (.vec [] .full)))])
(.seq (.seq (.reg [d 4 (.mv (i 0))])
(.block 0
(.loop [1,3,4]
(.seq (.seq (.reg [m 8 4,
q 9 1 0,
l 10 9,
d 11 (.len .i (t 10)),
b 12 .lss (t 8) (t 11)])
(.cond (t 12)
.skip
(.brk 0)))
(.seq (.block 1
(.reg [m 15 3,
q 16 1 0,
l 17 16,
m 18 4,
d 19 (.idxS (t 17) (t 18) 4),
q 20 19 0,
l 21 20,
d 22 (.bsl 1 1 false [s0] [(0,1,(t 21))]),
d 23 (.app (t 15) (t 22) 1 16 false false),
m 3 23]))
(.reg [m 13 4,
b 14 .add (t 13) (i 1),
m 4 14]))))))
(.seq (.seq (.reg [d 5 (.mv (i 0))])
(.block 2
(.loop [1,3,5]
(.seq (.seq (.reg [m 24 5,
q 25 1 1,
l 26 25,
d 27 (.len .i (t 26)),
b 28 .lss (t 24) (t 27)])
(.cond (t 28)
.skip
(.brk 2)))
(.seq (.block 3
(.reg [m 31 3,
q 32 1 1,
l 33 32,
m 34 5,
d 35 (.idxS (t 33) (t 34) 2),
q 36 35 0,
l 37 36,
d 38 (.bsl 1 1 false [s0] [(0,1,(t 37))]),
d 39 (.app (t 31) (t 38) 1 16 false false),
m 3 39]))
(.reg [m 29 5,
b 30 .add (t 29) (i 1),
m 5 30]))))))
(.seq (.seq (.reg [d 6 (.mv (i 0))])
(.block 4
(.loop [3,6]
(.seq (.seq (.reg [m 40 6,
m 41 3,
d 42 (.len .i (t 41)),
b 43 .lss (t 40) (t 42)])
(.cond (t 43)
.skip
(.brk 4)))
(.seq (.block 5
(.seq (.reg [d 7 (.mv (i 0))])
(.block 6
(.loop [3,6,7]
(.seq (.seq (.reg [m 46 7,
m 47 6,
b 48 .lss (t 46) (t 47)])
(.cond (t 48)
.skip
(.brk 6)))
(.seq (.block 7
(.seq (.draw [(m 51 3,0,[]),
(m 52 6,1,[]),
(d 53 (.idxS (t 51) (t 52) 1),2,[]),
(l 54 53,3,[]),
(m 55 3,4,[]),
(m 56 7,5,[]),
(d 57 (.idxS (t 55) (t 56) 1),6,[]),
(l 58 57,7,[]),
(b 59 .eql (t 54) (t 58),8,[])])
(.cond (t 59)
(.seq (.reg [d 2 (.mv (.cst (.bool false)))])
.ret)
.skip)))
(.reg [m 49 7,
b 50 .add (t 49) (i 1),
m 7 50])))))))
(.reg [m 44 6,
b 45 .add (t 44) (i 1),
m 6 45]))))))
(.seq (.reg [d 2 (.mv (.cst (.bool true)))])
.ret)))))⟩
theorem tr73:trF Tryd.prog (h [] [] [[1,3,4],[1,3,5],[3,6],[3,6,7]] [(16,([0,0,3,7,0,0,48,112,255],[(0,[]),(1,[]),(2,[]),(3,[]),(4,[]),(5,[]),(6,[]),(7,[]),(8,[])]))] false) Tryd.f73=some ir73:=by kernel_rfl
def ir74:IFn:=⟨22,[.tmp 4 false],
.seq (.reg [d 4 (.mv (i 0))])
(.seq (.seq (.reg [d 5 (.mv (i 0))])
(.block 0
(.loop [0,1,5]
(.seq (.seq (.reg [m 7 5,
m 8 1,
d 9 (.len .i (t 8)),
b 10 .lss (t 7) (t 9)])
(.cond (t 10)
.skip
(.brk 0)))
(.seq (.block 1
(.seq (.reg [m 13 0,
m 14 1,
m 15 5,
d 16 (.idxS (t 14) (t 15) 5),
d 17 (.load (t 16) 5 true),
k 18 85 [t 13,t 17],
m 6 18])
(.seq (.reg [m 19 6,
b 20 .neq (t 19) (i 0)])
(.cond (t 20)
(.seq (.reg [m 21 6,
m 4 21])
.ret)
.skip))))
(.reg [m 11 5,
b 12 .add (t 11) (i 1),
m 5 12]))))))
(.seq (.reg [d 4 (.mv (i 0))])
.ret))⟩
theorem tr74:trF Tryd.prog (h [] [] [[0,1,5]] [] false) Tryd.f74=some ir74:=by kernel_rfl
def ir75:IFn:=⟨4,[.tmp 2 false],
.seq (.reg [d 2 (.mv (w 0))])
(.seq (.seq (.reg [m 3 0])
(.cond (t 3)
(.seq (.reg [d 2 (.mv (w 1))])
.ret)
.skip))
(.seq (.reg [d 2 (.mv (w 0))])
.ret))⟩
theorem tr75:trF Tryd.prog h0 Tryd.f75=some ir75:=by kernel_rfl
def ir76:IFn:=⟨23,[.tmp 4 false],
.seq (.reg [d 2 (.box (t 0) false),
d 4 (.mv (i 0))])
(.seq (.seq (.reg [q 5 2 0,
l 6 5,
b 7 .neq (t 6) (i 1),
m 8 7,
⟨some 9,some (8,false),.fad (t 2) 2⟩,
⟨some 10,some (8,false),.load (t 9) 1 false⟩,
⟨some 11,some (8,false),.un .not (t 10)⟩,
d 12 (.pick (t 8) (.cst (.bool true)) (t 11))])
(.cond (t 12)
(.reg [k 13 53 [i 1]])
.skip))
(.seq (.seq (.reg [q 14 2 3,
l 15 14,
m 16 1,
d 17 (.cvI .u64 (t 16)),
b 18 .geq (t 15) (t 17)])
(.cond (t 18)
(.reg [k 19 53 [i 13]])
.skip))
(.seq (.reg [q 20 2 3,
l 21 20,
d 22 (.cvI .i64 (t 21)),
m 4 22])
.ret)))⟩
theorem tr76:trF Tryd.prog h0 Tryd.f76=some ir76:=by kernel_rfl
def ir77:IFn:=⟨9,[],
.seq (.reg [d 2 (.box (t 0) false)])
(.seq (.reg [q 4 2 0,
l 5 4,
m 6 1,
b 7 .neq (t 5) (t 6)])
(.cond (t 7)
(.reg [k 8 53 [i 5]])
.skip))⟩
theorem tr77:trF Tryd.prog h0 Tryd.f77=some ir77:=by kernel_rfl
def ir78:IFn:=⟨145,[],
.seq (.reg [m 20 0,
d 21 (.nilc (t 20)),
q 22 21 7,
l 23 22,
b 24 .add (t 23) (i 1),
d 25 (.nilc (t 20)),
q 26 25 7,
⟨none,none,.store (t 26) (t 24) 1⟩])
(.seq (.draw [(m 27 0,0,[]),
(d 28 (.nilc (t 27)),1,[]),
(q 29 28 2,2,[]),
(l 30 29,3,[]),
(m 32 0,5,[]),
(d 33 (.nilc (t 32)),6,[]),
(q 34 33 3,7,[]),
(l 35 34,8,[]),
(k 31 86 [t 30],4,[7]),
(k 36 87 [t 35],9,[]),
(m 6 31,10,[]),
(m 7 36,11,[])])
(.seq (.reg [m 37 0,
m 38 1,
k 39 54 [t 37,t 38]])
(.seq (.reg [m 40 6,
m 8 40])
(.seq (.draw [(m 41 0,0,[]),
(d 42 (.nilc (t 41)),1,[]),
(q 43 42 2,2,[]),
(l 44 43,3,[]),
(m 45 0,4,[]),
(d 46 (.nilc (t 45)),5,[]),
(q 47 46 3,6,[]),
(l 48 47,7,[]),
(m 9 44,8,[]),
(m 10 48,9,[])])
(.seq (.reg [m 49 0,
m 50 0,
m 51 6,
k 52 86 [t 51],
m 53 7,
d 54 (.nilc (t 49)),
q 55 54 2,
⟨none,none,.store (t 55) (t 52) 1⟩,
d 56 (.nilc (t 50)),
q 57 56 3,
⟨none,none,.store (t 57) (t 53) 1⟩])
(.seq (.reg [m 58 0,
m 59 2,
k 60 54 [t 58,t 59]])
(.seq (.reg [m 61 0,
d 62 (.nilc (t 61)),
q 63 62 7,
l 64 63,
b 65 .sub (t 64) (i 1),
d 66 (.nilc (t 61)),
q 67 66 7,
⟨none,none,.store (t 67) (t 65) 1⟩])
(.seq (.reg [d 68 (.mkM),
m 11 68])
(.seq (.seq (.reg [m 69 8,
d 70 (.rng (t 69))])
(.block 0
(.loop [0,9,10,11,70]
(.seq (.reg [d 71 (.nxt (t 70)),
d 72 (.ext (t 71) 0)])
(.seq (.cond (t 72)
.skip
(.brk 0))
(.block 1
(.seq (.reg [d 73 (.ent (t 70)),
d 74 (.ext (t 73) 0),
m 12 74])
(.seq (.reg [m 76 9,
m 77 12,
d 78 (.lkp .s (t 76) (t 77) (.agg [i0,i0,(.bool false),w0]) true),
m 75 78,
d 79 (.ext (t 75) 0),
d 80 (.ext (t 75) 1),
d 13 (.allocz [i0,i0,(.bool false),w0] false),
⟨none,none,.store (t 13) (t 79) 4⟩,
m 14 80])
(.seq (.reg [m 82 0,
d 83 (.nilc (t 82)),
q 84 83 2,
l 85 84,
m 86 12,
d 87 (.lkp .s (t 85) (t 86) (.agg [i0,i0,(.bool false),w0]) true),
m 81 87,
d 88 (.ext (t 81) 0),
d 89 (.ext (t 81) 1),
d 15 (.allocz [i0,i0,(.bool false),w0] false),
⟨none,none,.store (t 15) (t 88) 4⟩,
m 16 89])
(.seq (.reg [m 90 14,
m 91 90,
⟨some 92,some (91,true),.mv (t 16)⟩,
d 93 (.pick (t 91) (t 92) (.cst (.bool false))),
m 94 93,
⟨some 95,some (94,true),.fad (t 13) 0⟩,
⟨some 96,some (94,true),.load (t 95) 1 false⟩,
⟨some 97,some (94,true),.fad (t 15) 0⟩,
⟨some 98,some (94,true),.load (t 97) 1 false⟩,
⟨some 99,some (94,true),.bin .eql .plain (t 96) (t 98)⟩,
d 100 (.pick (t 94) (t 99) (.cst (.bool false)))])
(.cond (t 100)
(.reg [m 101 11,
m 102 12,
q 103 13 0,
l 104 103,
q 105 13 1,
l 106 105,
q 107 15 1,
l 108 107,
d 109 (.max [t 106,t 108]),
d 110 (.bld [i0,i0,(.bool false),w0] [(0,1,(t 104)),(1,1,(t 109))]),
⟨none,none,.mup .s (t 101) (t 102) (t 110)⟩])
.skip)))))))))))
(.seq (.reg [m 111 0,
m 112 11,
d 113 (.nilc (t 111)),
q 114 113 2,
⟨none,none,.store (t 114) (t 112) 1⟩])
(.seq (.reg [m 115 0,
d 116 (.nilc (t 115)),
q 117 116 3,
l 118 117,
d 119 (.rng (t 118))])
(.block 2
(.loop [10,119]
(.seq (.reg [d 120 (.nxt (t 119)),
d 121 (.ext (t 120) 0)])
(.seq (.cond (t 121)
.skip
(.brk 2))
(.block 3
(.seq (.reg [d 122 (.ent (t 119)),
d 123 (.ext (t 122) 0),
d 124 (.ext (t 122) 1),
m 17 123,
m 18 124])
(.seq (.reg [m 125 18,
d 126 (.len .i (t 125)),
d 127 (.mv (i 0))])
(.block 4
(.loop [10,17,18,119,126,127]
(.seq (.reg [b 128 .lss (t 127) (t 126)])
(.seq (.cond (t 128)
.skip
(.brk 4))
(.seq (.block 5
(.seq (.reg [m 129 127,
m 19 129])
(.draw [(m 130 18,0,[]),
(m 131 19,1,[]),
(m 132 18,2,[]),
(m 133 19,3,[]),
(d 134 (.idxS (t 132) (t 133) 1),4,[]),
(l 135 134,5,[]),
(m 136 10,6,[]),
(m 137 17,7,[]),
(d 138 (.lkp .s (t 136) (t 137) (.vec [] .full) false),8,[]),
(m 139 19,9,[]),
(d 140 (.idxS (t 138) (t 139) 1),10,[]),
(l 141 140,11,[]),
(d 142 (.max [t 135,t 141]),12,[]),
(d 143 (.idxS (t 130) (t 131) 1),13,[]),
(⟨none,none,.store (t 143) (t 142) 1⟩,14,[])])))
(.reg [b 144 .add (t 127) (i 1),
m 127 144]))))))))))))))))))))))))⟩
theorem tr78:trF Tryd.prog (h [] [] [[0,9,10,11,70],[10,119],[10,17,18,119,126,127]] [(1,([0,1,3,7,15,0,32,96,224,511,1023,2047],[(0,[]),(1,[]),(2,[]),(3,[]),(5,[]),(6,[]),(7,[]),(8,[]),(4,[7]),(9,[]),(10,[]),(11,[])])),(4,([0,1,3,7,0,16,48,112,15,511],[(0,[]),(1,[]),(2,[]),(3,[]),(4,[]),(5,[]),(6,[]),(7,[]),(8,[]),(9,[])])),(23,([0,0,0,0,12,28,0,0,192,0,960,1984,4092,8191,16383],[(0,[]),(1,[]),(2,[]),(3,[]),(4,[]),(5,[]),(6,[]),(7,[]),(8,[]),(9,[]),(10,[]),(11,[]),(12,[]),(13,[]),(14,[])]))] false) Tryd.f78=some ir78:=by kernel_rfl
def ir79:IFn:=⟨67,[],
.seq (.reg [d 5 (.box (t 1) false),
d 6 (.box (t 2) false),
d 7 (.box (t 3) false)])
(.seq (.seq (.reg [q 9 6 0,
l 10 9,
b 11 .neq (t 10) (i 1),
m 12 11,
⟨some 13,some (12,false),.fad (t 7) 0⟩,
⟨some 14,some (12,false),.load (t 13) 1 false⟩,
⟨some 15,some (12,false),.bin .neq .plain (t 14) (i 1)⟩,
d 16 (.pick (t 12) (.cst (.bool true)) (t 15)),
m 17 16,
⟨some 18,some (17,false),.fad (t 6) 2⟩,
⟨some 19,some (17,false),.load (t 18) 1 false⟩,
⟨some 20,some (17,false),.un .not (t 19)⟩,
d 21 (.pick (t 17) (.cst (.bool true)) (t 20)),
m 22 21,
⟨some 23,some (22,false),.fad (t 7) 2⟩,
⟨some 24,some (22,false),.load (t 23) 1 false⟩,
⟨some 25,some (22,false),.un .not (t 24)⟩,
d 26 (.pick (t 22) (.cst (.bool true)) (t 25))])
(.cond (t 26)
(.reg [k 27 53 [i 1]])
.skip))
(.seq (.seq (.reg [m 28 0,
q 29 5 1,
l 30 29,
k 31 52 [t 28,t 30]])
(.cond (t 31)
(.reg [k 32 53 [i 4]])
.skip))
(.seq (.draw [(m 33 0,0,[]),
(d 34 (.nilc (t 33)),1,[]),
(q 35 34 2,2,[]),
(l 36 35,3,[]),
(q 37 5 1,4,[]),
(l 38 37,5,[]),
(⟨none,none,.mdel .s (t 36) (t 38)⟩,6,[])])
(.seq (.seq (.reg [q 39 6 3,
l 40 39,
m 8 40])
(.block 0
(.loop [0,5,7,8]
(.seq (.seq (.reg [m 41 8,
q 42 7 3,
l 43 42,
b 44 .leq (t 41) (t 43)])
(.cond (t 44)
.skip
(.brk 0)))
(.seq (.block 1
(.seq (.reg [m 47 0,
k 48 66 [t 47]])
(.seq (.draw [(m 49 0,0,[]),
(d 50 (.nilc (t 49)),1,[]),
(q 51 50 4,2,[]),
(l 52 51,3,[]),
(q 53 5 1,4,[]),
(l 54 53,5,[]),
(m 55 8,6,[]),
(k 56 88 [t 55],7,[3,5]),
(⟨none,none,.mup .s (t 52) (t 54) (t 56)⟩,8,[])])
(.reg [m 57 0,
q 58 5 3,
l 59 58,
k 60 54 [t 57,t 59]]))))
(.reg [m 45 8,
b 46 .add (t 45) (w 1),
m 8 46]))))))
(.draw [(m 61 0,0,[]),
(d 62 (.nilc (t 61)),1,[]),
(q 63 62 4,2,[]),
(l 64 63,3,[]),
(q 65 5 1,4,[]),
(l 66 65,5,[]),
(⟨none,none,.mdel .s (t 64) (t 66)⟩,6,[])])))))⟩
theorem tr79:trF Tryd.prog (h [] [] [[0,5,7,8]] [(5,([0,1,3,7,0,16,63],[(0,[]),(1,[]),(2,[]),(3,[]),(4,[]),(5,[]),(6,[])])),(10,([0,1,3,7,0,16,0,64,255],[(0,[]),(1,[]),(2,[]),(3,[]),(4,[]),(5,[]),(6,[]),(7,[3,5]),(8,[])])),(12,([0,1,3,7,0,16,63],[(0,[]),(1,[]),(2,[]),(3,[]),(4,[]),(5,[]),(6,[])]))] false) Tryd.f79=some ir79:=by kernel_rfl
def ir80:IFn:=⟨86,[.cell 4 4 true false],
.seq (.reg [d 3 (.box (t 1) false),
d 4 (.allocz [i0,i0,(.bool false),w0] false)])
(.seq (.reg [m 6 0,
q 7 3 4,
l 8 7,
k 9 68 [t 6,t 8],
m 5 9])
(.seq (.seq (.reg [q 10 3 0,
l 11 10])
(.block 0
(.seq (.reg [b 13 .eql (t 11) (i 1),
m 12 13])
(.cond (t 12)
(.seq (.reg [m 14 0,
q 15 3 2,
l 16 15,
k 17 88 [t 16],
k 18 89 [t 14,t 17],
⟨none,none,.store (t 4) (t 18) 4⟩])
.ret)
(.seq (.reg [b 20 .eql (t 11) (i 2),
m 19 20])
(.cond (t 19)
(.seq (.reg [m 21 0,
m 22 0,
q 23 3 3,
l 24 23,
k 25 90 [t 22,t 24],
k 26 89 [t 21,t 25],
⟨none,none,.store (t 4) (t 26) 4⟩])
.ret)
(.seq (.reg [b 28 .eql (t 11) (i 3),
m 27 28])
(.cond (t 27)
(.seq (.draw [(m 29 0,0,[]),
(m 30 0,1,[]),
(q 31 3 3,2,[]),
(l 32 31,3,[]),
(m 33 5,4,[]),
(d 34 (.idxS (t 33) (i 0) 4),5,[]),
(d 35 (.load (t 34) 4 true),6,[]),
(k 36 91 [t 30,t 32,t 35],7,[]),
(k 37 89 [t 29,t 36],8,[]),
(⟨none,none,.store (t 4) (t 37) 4⟩,9,[])])
.ret)
(.seq (.reg [b 39 .eql (t 11) (i 4),
m 38 39])
(.cond (t 38)
(.seq (.draw [(m 40 0,0,[]),
(q 41 3 1,1,[]),
(l 42 41,2,[]),
(m 43 5,3,[]),
(d 44 (.idxS (t 43) (i 0) 4),4,[]),
(d 45 (.load (t 44) 4 true),5,[]),
(m 46 5,6,[]),
(d 47 (.idxS (t 46) (i 1) 4),7,[]),
(d 48 (.load (t 47) 4 true),8,[]),
(k 49 92 [t 42,t 45,t 48],9,[]),
(k 50 89 [t 40,t 49],10,[]),
(⟨none,none,.store (t 4) (t 50) 4⟩,11,[])])
.ret)
(.seq (.reg [b 52 .eql (t 11) (i 5),
m 51 52])
(.cond (t 51)
(.seq (.reg [m 53 5,
d 54 (.idxS (t 53) (i 0) 4),
d 55 (.load (t 54) 4 true),
k 56 77 [t 55,i 2]])
(.seq (.reg [d 57 (.load (.glob 0 [(.int .i64 2),i0,(.bool false),w0]) 4 true),
⟨none,none,.store (t 4) (t 57) 4⟩])
.ret))
.skip))))))))))))
(.seq (.reg [m 58 5,
d 59 (.idxS (t 58) (i 0) 4),
d 60 (.load (t 59) 4 true),
k 61 77 [t 60,i 2]])
(.seq (.draw [(m 62 5,0,[]),
(d 63 (.idxS (t 62) (i 2) 4),1,[]),
(d 64 (.load (t 63) 4 true),2,[]),
(m 65 5,3,[]),
(d 66 (.idxS (t 65) (i 1) 4),4,[]),
(q 67 66 0,5,[]),
(l 68 67,6,[]),
(k 69 77 [t 64,t 68],7,[])])
(.seq (.draw [(m 70 0,0,[]),
(m 71 5,1,[]),
(d 72 (.idxS (t 71) (i 1) 4),2,[]),
(q 73 72 0,3,[]),
(l 74 73,4,[]),
(m 75 5,5,[]),
(d 76 (.idxS (t 75) (i 1) 4),6,[]),
(q 77 76 1,7,[]),
(l 78 77,8,[]),
(m 79 5,9,[]),
(d 80 (.idxS (t 79) (i 2) 4),10,[]),
(q 81 80 1,11,[]),
(l 82 81,12,[]),
(d 83 (.max [t 78,t 82]),13,[]),
(d 84 (.bld [i0,i0,(.bool false),w0] [(0,1,(t 74)),(1,1,(t 83))]),14,[]),
(k 85 89 [t 70,t 84],15,[]),
(⟨none,none,.store (t 4) (t 85) 4⟩,16,[])])
.ret)))))⟩
theorem tr80:trF Tryd.prog (h [] [] [] [(8,([0,0,0,4,0,16,48,126,255,511],[(0,[]),(1,[]),(2,[]),(3,[]),(4,[]),(5,[]),(6,[]),(7,[]),(8,[]),(9,[])])),(10,([0,0,2,0,8,24,0,64,192,510,1023,2047],[(0,[]),(1,[]),(2,[]),(3,[]),(4,[]),(5,[]),(6,[]),(7,[]),(8,[]),(9,[]),(10,[]),(11,[])])),(15,([0,1,3,0,8,24,56,127],[(0,[]),(1,[]),(2,[]),(3,[]),(4,[]),(5,[]),(6,[]),(7,[])])),(16,([0,0,2,6,14,0,32,96,224,0,512,1536,3584,8160,16382,32767,65535],[(0,[]),(1,[]),(2,[]),(3,[]),(4,[]),(5,[]),(6,[]),(7,[]),(8,[]),(9,[]),(10,[]),(11,[]),(12,[]),(13,[]),(14,[]),(15,[]),(16,[])]))] false) Tryd.f80=some ir80:=by kernel_rfl
def ir81:IFn:=⟨15,[.tmp 2 false],
.seq (.reg [d 1 (.box (t 0) false),
d 2 (.mv (i 0))])
(.seq (.seq (.reg [q 3 1 0,
l 4 3])
(.block 0
(.seq (.seq (.reg [b 6 .eql (t 4) (i 1),
m 5 6])
(.cond (t 5)
.skip
(.reg [b 7 .eql (t 4) (i 2),
m 5 7])))
(.cond (t 5)
(.seq (.reg [d 2 (.mv (i 0))])
.ret)
(.seq (.seq (.reg [b 9 .eql (t 4) (i 3),
m 8 9])
(.cond (t 8)
.skip
(.reg [b 10 .eql (t 4) (i 5),
m 8 10])))
(.cond (t 8)
(.seq (.reg [d 2 (.mv (i 1))])
.ret)
(.seq (.reg [b 12 .eql (t 4) (i 4),
m 11 12])
(.cond (t 11)
(.seq (.reg [d 2 (.mv (i 2))])
.ret)
(.seq (.reg [b 14 .eql (t 4) (i 6),
m 13 14])
(.cond (t 13)
(.seq (.reg [d 2 (.mv (i 3))])
.ret)
.skip))))))))))
(.seq (.reg [d 2 (.mv (.cst (.int .i64 (-1))))])
.ret))⟩
theorem tr81:trF Tryd.prog h0 Tryd.f81=some ir81:=by kernel_rfl
def ir82:IFn:=⟨15,[.tmp 4 false],
.seq (.reg [d 2 (.box (t 0) false),
d 4 (.mv (.cst s0))])
(.seq (.seq (.reg [d 5 (.load (t 2) 5 true),
k 6 83 [t 5],
m 7 1,
b 8 .lss (t 6) (t 7)])
(.cond (t 8)
(.seq (.reg [d 9 (.load (t 2) 5 true),
k 10 72 [t 9],
b 11 .add (.cst (.str ⟨#[40]⟩)) (t 10),
b 12 .add (t 11) (.cst (.str ⟨#[41]⟩)),
m 4 12])
.ret)
.skip))
(.seq (.reg [d 13 (.load (t 2) 5 true),
k 14 72 [t 13],
m 4 14])
.ret))⟩
theorem tr82:trF Tryd.prog h0 Tryd.f82=some ir82:=by kernel_rfl
def ir83:IFn:=⟨23,[.tmp 2 false],
.seq (.reg [d 1 (.box (t 0) false),
d 2 (.mv (i 0))])
(.seq (.seq (.reg [q 3 1 0,
l 4 3])
(.block 0
(.seq (.reg [b 6 .eql (t 4) (i 6),
m 5 6])
(.cond (t 5)
(.seq (.reg [d 2 (.mv (i 1))])
.ret)
(.seq (.reg [b 8 .eql (t 4) (i 5),
m 7 8])
(.cond (t 7)
(.seq (.reg [d 2 (.mv (i 8))])
.ret)
(.seq (.reg [b 10 .eql (t 4) (i 4),
m 9 10])
(.cond (t 9)
(.seq (.seq (.reg [q 11 1 1,
l 12 11])
(.block 1
(.seq (.reg [b 14 .eql (t 12) (i 7),
m 13 14])
(.cond (t 13)
(.seq (.reg [d 2 (.mv (i 2))])
.ret)
(.seq (.reg [b 16 .eql (t 12) (i 6),
m 15 16])
(.cond (t 15)
(.seq (.reg [d 2 (.mv (i 3))])
.ret)
(.seq (.reg [b 18 .eql (t 12) (i 5),
m 17 18])
(.cond (t 17)
(.seq (.reg [d 2 (.mv (i 4))])
.ret)
(.seq (.reg [b 20 .eql (t 12) (i 4),
m 19 20])
(.cond (t 19)
(.seq (.reg [d 2 (.mv (i 5))])
.ret)
(.seq (.reg [b 22 .eql (t 12) (i 3),
m 21 22])
(.cond (t 21)
(.seq (.reg [d 2 (.mv (i 7))])
.ret)
.skip))))))))))))
(.seq (.reg [d 2 (.mv (i 6))])
.ret))
.skip))))))))
(.seq (.reg [d 2 (.mv (i 9))])
.ret))⟩
theorem tr83:trF Tryd.prog h0 Tryd.f83=some ir83:=by kernel_rfl
def ir84:IFn:=⟨10,[.tmp 2 false],
.seq (.reg [d 2 (.mv (.cst s0))])
(.seq (.reg [d 4 (.bsl 7 1 false [s0] [(0,1,(.cst (.str ⟨#[43]⟩))),(1,1,(.cst (.str ⟨#[45]⟩))),(2,1,(.cst (.str ⟨#[42]⟩))),(3,1,(.cst (.str ⟨#[60]⟩))),(4,1,(.cst (.str ⟨#[61,61]⟩))),(5,1,(.cst (.str ⟨#[38]⟩))),(6,1,(.cst (.str ⟨#[124]⟩)))]),
m 3 4])
(.seq (.reg [m 5 3,
m 6 0,
b 7 .sub (t 6) (i 1),
d 8 (.idxS (t 5) (t 7) 1),
l 9 8,
m 2 9])
.ret))⟩
theorem tr84:trF Tryd.prog h0 Tryd.f84=some ir84:=by kernel_rfl
def ir85:IFn:=⟨126,[.tmp 4 false],
.seq (.reg [d 3 (.box (t 1) false),
d 4 (.mv (i 0))])
(.seq (.reg [m 10 0,
k 11 93 [t 10],
m 5 11])
(.seq (.seq (.reg [m 12 5,
b 13 .neq (t 12) (i 0)])
(.cond (t 13)
(.seq (.reg [m 14 5,
m 4 14])
.ret)
.skip))
(.seq (.reg [m 16 0,
q 17 3 2,
l 18 17,
k 19 94 [t 16,t 18],
m 15 19,
d 20 (.ext (t 15) 0),
d 21 (.ext (t 15) 1),
m 6 20,
m 5 21])
(.seq (.seq (.reg [m 22 5,
b 23 .neq (t 22) (i 0)])
(.cond (t 23)
(.seq (.reg [m 24 5,
m 4 24])
.ret)
.skip))
(.seq (.seq (.reg [q 25 3 0,
l 26 25])
(.block 0
(.seq (.reg [b 28 .eql (t 26) (i 1),
m 27 28])
(.cond (t 27)
(.seq (.seq (.reg [m 29 0,
q 30 3 1,
l 31 30,
k 32 95 [t 29,t 31]])
(.cond (t 32)
(.seq (.reg [d 4 (.mv (i 4))])
.ret)
.skip))
(.draw [(m 33 0,0,[]),
(m 34 0,1,[]),
(d 35 (.nilc (t 34)),2,[]),
(q 36 35 3,3,[]),
(l 37 36,4,[]),
(q 38 3 1,5,[]),
(l 39 38,6,[]),
(q 41 3 1,8,[]),
(l 42 41,9,[]),
(m 43 6,10,[]),
(d 44 (.idxS (t 43) (i 0) 4),11,[]),
(d 45 (.load (t 44) 4 true),12,[]),
(k 40 96 [t 37,t 39],7,[8,11]),
(k 46 97 [t 45],13,[8]),
(d 47 (.bld [s0,i0,i0,(.bool false),w0] [(0,1,(t 42)),(1,4,(t 46))]),14,[]),
(d 48 (.bsl 1 5 true [s0,i0,i0,(.bool false),w0] [(0,5,(t 47))]),15,[]),
(d 49 (.app (t 40) (t 48) 5 48 true false),16,[]),
(d 50 (.nilc (t 33)),17,[]),
(q 51 50 3,18,[]),
(⟨none,none,.store (t 51) (t 49) 1⟩,19,[])]))
(.seq (.reg [b 53 .eql (t 26) (i 2),
m 52 53])
(.cond (t 52)
(.seq (.draw [(m 54 0,0,[]),
(d 55 (.nilc (t 54)),1,[]),
(q 56 55 0,2,[]),
(d 57 (.load (t 56) 3 true),3,[]),
(q 58 3 1,4,[]),
(l 59 58,5,[]),
(k 60 98 [t 57,t 59],6,[]),
(m 7 60,7,[])])
(.seq (.seq (.reg [m 61 7,
b 62 .lss (t 61) (i 0)])
(.cond (t 62)
(.seq (.reg [d 4 (.mv (i 4))])
.ret)
.skip))
(.seq (.draw [(m 64 6,0,[]),
(d 65 (.idxS (t 64) (i 0) 4),1,[]),
(d 66 (.load (t 65) 4 true),2,[]),
(m 67 0,3,[]),
(d 68 (.nilc (t 67)),4,[]),
(q 69 68 0,5,[]),
(q 70 69 1,6,[]),
(l 71 70,7,[]),
(m 72 7,8,[]),
(d 73 (.idxS (t 71) (t 72) 2),9,[]),
(q 74 73 1,10,[]),
(l 75 74,11,[]),
(k 76 99 [t 66,t 75],12,[]),
(m 63 76,13,[]),
(d 77 (.ext (t 63) 0),14,[]),
(d 78 (.ext (t 63) 1),15,[]),
(m 8 77,16,[]),
(m 9 78,17,[])])
(.seq (.seq (.reg [m 79 9,
b 80 .neq (t 79) (i 0)])
(.cond (t 80)
(.seq (.reg [m 81 9,
m 4 81])
.ret)
.skip))
(.seq (.seq (.reg [m 82 6,
d 83 (.idxS (t 82) (i 1) 4),
q 84 83 0,
l 85 84,
b 86 .neq (t 85) (i 1)])
(.cond (t 86)
(.seq (.reg [d 4 (.mv (i 5))])
.ret)
.skip))
(.draw [(m 87 0,0,[]),
(d 88 (.nilc (t 87)),1,[]),
(q 89 88 5,2,[]),
(l 90 89,3,[]),
(m 91 7,4,[]),
(d 92 (.idxS (t 90) (t 91) 1),5,[]),
(l 93 92,6,[]),
(m 94 8,7,[]),
(m 95 6,8,[]),
(d 96 (.idxS (t 95) (i 1) 4),9,[]),
(q 97 96 1,10,[]),
(l 98 97,11,[]),
(d 99 (.idxS (t 93) (t 94) 1),12,[]),
(⟨none,none,.store (t 99) (t 98) 1⟩,13,[])]))))))
(.seq (.reg [b 101 .eql (t 26) (i 3),
m 100 101])
(.cond (t 100)
(.seq (.draw [(m 102 0,0,[]),
(d 103 (.load (t 3) 5 true),1,[]),
(m 104 6,2,[]),
(d 105 (.idxS (t 104) (i 0) 4),3,[]),
(d 106 (.load (t 105) 4 true),4,[]),
(k 107 100 [t 102,t 103,t 106],5,[]),
(m 4 107,6,[])])
.ret)
(.seq (.reg [b 109 .eql (t 26) (i 4),
m 108 109])
(.cond (t 108)
(.seq (.draw [(m 110 0,0,[]),
(d 111 (.load (t 3) 5 true),1,[]),
(m 112 6,2,[]),
(d 113 (.idxS (t 112) (i 0) 4),3,[]),
(d 114 (.load (t 113) 4 true),4,[]),
(m 115 6,5,[]),
(d 116 (.idxS (t 115) (i 1) 4),6,[]),
(d 117 (.load (t 116) 4 true),7,[]),
(k 118 101 [t 110,t 111,t 114,t 117],8,[]),
(m 4 118,9,[])])
.ret)
(.seq (.reg [b 120 .eql (t 26) (i 5),
m 119 120])
(.cond (t 119)
(.seq (.reg [m 121 0,
d 122 (.nilc (t 121)),
q 123 122 8,
l 124 123,
b 125 .gtr (t 124) (i 0)])
(.cond (t 125)
(.seq (.reg [d 4 (.mv (i 1))])
.ret)
.skip))
.skip))))))))))))
(.seq (.reg [d 4 (.mv (i 0))])
.ret))))))⟩
theorem tr85:trF Tryd.prog (h [] [] [] [(11,([0,0,2,6,14,0,32,126,0,256,0,1024,3072,7422,16382,32766,65534,131071,262143,524287],[(0,[]),(1,[]),(2,[]),(3,[]),(4,[]),(5,[]),(6,[]),(8,[]),(9,[]),(10,[]),(11,[]),(12,[]),(7,[8,11]),(13,[8]),(14,[]),(15,[]),(16,[]),(17,[]),(18,[]),(19,[])])),(13,([0,1,3,7,0,16,63,127],[(0,[]),(1,[]),(2,[]),(3,[]),(4,[]),(5,[]),(6,[]),(7,[])])),(16,([0,1,3,0,8,24,56,120,0,504,1016,2040,4095,8191,16383,16383,32767,131071],[(0,[]),(1,[]),(2,[]),(3,[]),(4,[]),(5,[]),(6,[]),(7,[]),(8,[]),(9,[]),(10,[]),(11,[]),(12,[]),(13,[]),(14,[]),(15,[]),(16,[]),(17,[])])),(21,([0,1,3,7,0,31,63,0,0,256,768,1792,4095,8191],[(0,[]),(1,[]),(2,[]),(3,[]),(4,[]),(5,[]),(6,[]),(7,[]),(8,[]),(9,[]),(10,[]),(11,[]),(12,[]),(13,[])])),(23,([0,0,0,4,12,31,63],[(0,[]),(1,[]),(2,[]),(3,[]),(4,[]),(5,[]),(6,[])])),(25,([0,0,0,4,12,0,32,96,255,511],[(0,[]),(1,[]),(2,[]),(3,[]),(4,[]),(5,[]),(6,[]),(7,[]),(8,[]),(9,[])]))] false) Tryd.f85=some ir85:=by kernel_rfl
def ir87:IFn:=⟨20,[.tmp 2 false],
.seq (.reg [d 2 (.mv (.cst .nilmap))])
(.seq (.reg [d 6 (.mkM),
m 3 6])
(.seq (.seq (.reg [m 7 0,
d 8 (.rng (t 7))])
(.block 0
(.loop [3,8]
(.seq (.reg [d 9 (.nxt (t 8)),
d 10 (.ext (t 9) 0)])
(.seq (.cond (t 10)
.skip
(.brk 0))
(.block 1
(.seq (.reg [d 11 (.ent (t 8)),
d 12 (.ext (t 11) 0),
d 13 (.ext (t 11) 1),
m 4 12,
m 5 13])
(.reg [m 14 3,
m 15 4,
d 16 (.bsl 0 1 false [i0] []),
m 17 5,
d 18 (.app (t 16) (t 17) 1 8 false true),
⟨none,none,.mup .s (t 14) (t 15) (t 18)⟩]))))))))
(.seq (.reg [m 19 3,
m 2 19])
.ret)))⟩
theorem tr87:trF Tryd.prog (h [18] [] [[3,8]] [] false) Tryd.f87=some ir87:=by kernel_rfl
def ir88:IFn:=⟨7,[.cell 2 4 true false],
.seq (.reg [d 2 (.allocz [i0,i0,(.bool false),w0] false)])
(.seq (.reg [m 3 0,
k 4 50 [t 3],
m 5 0,
d 6 (.bld [i0,i0,(.bool false),w0] [(0,1,(i 1)),(1,1,(t 4)),(2,1,(.cst (.bool true))),(3,1,(t 5))]),
⟨none,none,.store (t 2) (t 6) 4⟩])
.ret)⟩
theorem tr88:trF Tryd.prog h0 Tryd.f88=some ir88:=by kernel_rfl
def ir89:IFn:=⟨23,[.cell 4 4 true false],
.seq (.reg [d 3 (.box (t 1) false),
d 4 (.allocz [i0,i0,(.bool false),w0] false)])
(.seq (.seq (.reg [q 5 3 0,
l 6 5,
b 7 .eql (t 6) (i 1)])
(.cond (t 7)
(.seq (.seq (.reg [q 8 3 1,
l 9 8,
b 10 .gtr (t 9) (i 60)])
(.cond (t 10)
(.reg [k 11 53 [i 11]])
.skip))
(.draw [(m 12 0,0,[]),
(m 13 0,1,[]),
(d 14 (.nilc (t 13)),2,[]),
(q 15 14 6,3,[]),
(l 16 15,4,[]),
(q 17 3 1,5,[]),
(l 18 17,6,[]),
(d 19 (.max [t 16,t 18]),7,[]),
(d 20 (.nilc (t 12)),8,[]),
(q 21 20 6,9,[]),
(⟨none,none,.store (t 21) (t 19) 1⟩,10,[])]))
.skip))
(.seq (.reg [d 22 (.load (t 3) 4 true),
⟨none,none,.store (t 4) (t 22) 4⟩])
.ret))⟩
theorem tr89:trF Tryd.prog (h [] [] [] [(4,([0,0,2,6,14,0,32,126,255,511,1023],[(0,[]),(1,[]),(2,[]),(3,[]),(4,[]),(5,[]),(6,[]),(7,[]),(8,[]),(9,[]),(10,[])]))] false) Tryd.f89=some ir89:=by kernel_rfl
def ir90:IFn:=⟨53,[.cell 4 4 true false],
.seq (.reg [d 4 (.allocz [i0,i0,(.bool false),w0] false)])
(.seq (.seq (.reg [m 12 0,
d 13 (.nilc (t 12)),
q 14 13 4,
l 15 14,
m 16 1,
d 17 (.lkp .s (t 15) (t 16) (.agg [i0,i0,(.bool false),w0]) true),
m 11 17,
d 18 (.ext (t 11) 0),
d 19 (.ext (t 11) 1),
d 5 (.allocz [i0,i0,(.bool false),w0] false),
⟨none,none,.store (t 5) (t 18) 4⟩,
m 6 19])
(.seq (.reg [m 20 6])
(.cond (t 20)
(.seq (.reg [d 21 (.load (t 5) 4 true),
⟨none,none,.store (t 4) (t 21) 4⟩])
.ret)
.skip)))
(.seq (.seq (.reg [m 23 0,
d 24 (.nilc (t 23)),
q 25 24 2,
l 26 25,
m 27 1,
d 28 (.lkp .s (t 26) (t 27) (.agg [i0,i0,(.bool false),w0]) true),
m 22 28,
d 29 (.ext (t 22) 0),
d 30 (.ext (t 22) 1),
d 7 (.allocz [i0,i0,(.bool false),w0] false),
⟨none,none,.store (t 7) (t 29) 4⟩,
m 8 30])
(.seq (.reg [m 31 8])
(.cond (t 31)
(.seq (.reg [d 32 (.load (t 7) 4 true),
⟨none,none,.store (t 4) (t 32) 4⟩])
.ret)
.skip)))
(.seq (.seq (.reg [m 34 0,
d 35 (.nilc (t 34)),
q 36 35 0,
l 37 36,
m 38 1,
d 39 (.lkp .s (t 37) (t 38) (.agg [s0,i0,i0,i0]) true),
m 33 39,
d 40 (.ext (t 33) 0),
d 41 (.ext (t 33) 1),
d 9 (.allocz [s0,i0,i0,i0] false),
⟨none,none,.store (t 9) (t 40) 4⟩,
m 10 41])
(.seq (.reg [m 42 10,
m 43 42,
⟨some 44,some (43,true),.fad (t 9) 3⟩,
⟨some 45,some (43,true),.load (t 44) 1 false⟩,
⟨some 46,some (43,true),.bin .eql .plain (t 45) (i 0)⟩,
d 47 (.pick (t 43) (t 46) (.cst (.bool false)))])
(.cond (t 47)
(.seq (.reg [q 48 9 2,
l 49 48,
k 50 102 [t 49],
⟨none,none,.store (t 4) (t 50) 4⟩])
.ret)
.skip)))
(.seq (.reg [k 51 53 [i 4]])
(.seq (.reg [d 52 (.bld [i0,i0,(.bool false),w0] []),
⟨none,none,.store (t 4) (t 52) 4⟩])
.ret)))))⟩
theorem tr90:trF Tryd.prog h0 Tryd.f90=some ir90:=by kernel_rfl
def ir91:IFn:=⟨57,[.cell 6 4 true false],
.seq (.reg [d 5 (.box (t 2) false),
d 6 (.allocz [i0,i0,(.bool false),w0] false)])
(.seq (.seq (.reg [m 12 0,
d 13 (.nilc (t 12)),
q 14 13 0,
l 15 14,
m 16 1,
d 17 (.lkp .s (t 15) (t 16) (.agg [s0,i0,i0,i0]) true),
m 11 17,
d 18 (.ext (t 11) 0),
d 19 (.ext (t 11) 1),
d 7 (.allocz [s0,i0,i0,i0] false),
⟨none,none,.store (t 7) (t 18) 4⟩,
m 8 19])
(.seq (.reg [m 20 8,
m 21 20,
⟨some 22,some (21,true),.fad (t 7) 3⟩,
⟨some 23,some (21,true),.load (t 22) 1 false⟩,
⟨some 24,some (21,true),.bin .gtr .plain (t 23) (i 0)⟩,
d 25 (.pick (t 21) (t 24) (.cst (.bool false)))])
(.cond (t 25)
(.seq (.reg [d 26 (.load (t 5) 4 true),
q 27 7 3,
l 28 27,
k 29 76 [t 26,t 28]])
(.seq (.reg [q 30 7 2,
l 31 30,
k 32 102 [t 31],
⟨none,none,.store (t 6) (t 32) 4⟩])
.ret))
.skip)))
(.seq (.seq (.reg [m 34 0,
d 35 (.nilc (t 34)),
q 36 35 1,
l 37 36,
m 38 1,
d 39 (.lkp .s (t 37) (t 38) i0 true),
m 33 39,
d 40 (.ext (t 33) 0),
d 41 (.ext (t 33) 1),
m 9 40,
m 10 41])
(.seq (.reg [m 42 10])
(.cond (t 42)
(.seq (.draw [(m 43 0,0,[]),
(d 44 (.nilc (t 43)),1,[]),
(q 45 44 3,2,[]),
(l 46 45,3,[]),
(m 47 1,4,[]),
(d 48 (.lkp .s (t 46) (t 47) (.vec [] .full) false),5,[]),
(d 49 (.load (t 5) 4 true),6,[]),
(m 50 9,7,[]),
(k 51 76 [t 49,t 50],8,[3,5]),
(d 52 (.idxS (t 48) (t 51) 1),9,[]),
(l 53 52,10,[]),
(k 54 102 [t 53],11,[]),
(⟨none,none,.store (t 6) (t 54) 4⟩,12,[])])
.ret)
.skip)))
(.seq (.reg [k 55 53 [i 4]])
(.seq (.reg [d 56 (.bld [i0,i0,(.bool false),w0] []),
⟨none,none,.store (t 6) (t 56) 4⟩])
.ret))))⟩
theorem tr91:trF Tryd.prog (h [] [] [] [(7,([0,1,3,7,0,31,0,0,192,511,1023,2047,4095],[(0,[]),(1,[]),(2,[]),(3,[]),(4,[]),(5,[]),(6,[]),(7,[]),(8,[3,5]),(9,[]),(10,[]),(11,[]),(12,[])]))] false) Tryd.f91=some ir91:=by kernel_rfl
def ir92:IFn:=⟨81,[.cell 6 4 true false],
.seq (.reg [d 4 (.box (t 1) false),
d 5 (.box (t 2) false),
d 6 (.allocz [i0,i0,(.bool false),w0] false)])
(.seq (.reg [d 7 (.mv (i 1))])
(.seq (.seq (.reg [m 9 0,
b 10 .eql (t 9) (i 6),
m 11 10,
⟨some 12,some (11,false),.mv (t 0)⟩,
⟨some 13,some (11,false),.bin .eql .plain (t 12) (i 7)⟩,
d 14 (.pick (t 11) (.cst (.bool true)) (t 13))])
(.cond (t 14)
(.reg [d 7 (.mv (i 2))])
.skip))
(.seq (.reg [d 15 (.load (t 4) 4 true),
m 16 7,
k 17 77 [t 15,t 16]])
(.seq (.reg [d 18 (.load (t 5) 4 true),
m 19 7,
k 20 77 [t 18,t 19]])
(.seq (.reg [d 21 (.load (.glob 0 [(.int .i64 2),i0,(.bool false),w0]) 4 true),
d 8 (.allocz [i0,i0,(.bool false),w0] false),
⟨none,none,.store (t 8) (t 21) 4⟩])
(.seq (.seq (.reg [m 22 0])
(.block 0
(.seq (.reg [b 25 .eql (t 22) (i 1),
m 24 25])
(.cond (t 24)
(.seq (.reg [q 26 4 1,
l 27 26,
q 28 5 1,
l 29 28,
d 30 (.max [t 27,t 29]),
b 31 .add (t 30) (i 1),
k 32 102 [t 31],
⟨none,none,.store (t 8) (t 32) 4⟩])
(.reg [q 33 4 3,
l 34 33,
q 35 5 3,
l 36 35,
b 37 .add (t 34) (t 36),
q 38 8 3,
⟨none,none,.store (t 38) (t 37) 1⟩]))
(.seq (.reg [b 40 .eql (t 22) (i 2),
m 39 40])
(.cond (t 39)
(.seq (.reg [q 41 4 1,
l 42 41,
k 43 102 [t 42],
⟨none,none,.store (t 8) (t 43) 4⟩])
(.seq (.reg [q 44 4 3,
l 45 44,
q 46 5 3,
l 47 46,
b 48 .gtr (t 45) (t 47)])
(.cond (t 48)
(.reg [q 49 4 3,
l 50 49,
q 51 5 3,
l 52 51,
b 53 .sub (t 50) (t 52),
q 54 8 3,
⟨none,none,.store (t 54) (t 53) 1⟩])
.skip)))
(.seq (.reg [b 56 .eql (t 22) (i 3),
m 55 56])
(.cond (t 55)
(.seq (.reg [q 57 4 1,
l 58 57,
q 59 5 1,
l 60 59,
b 61 .add (t 58) (t 60),
k 62 102 [t 61],
⟨none,none,.store (t 8) (t 62) 4⟩])
(.reg [q 63 4 3,
l 64 63,
q 65 5 3,
l 66 65,
b 67 .mul (t 64) (t 66),
q 68 8 3,
⟨none,none,.store (t 68) (t 67) 1⟩]))
(.seq (.reg [d 23 (.load (.glob 0 [(.int .i64 2),i0,(.bool false),w0]) 4 true),
⟨none,none,.store (t 6) (t 23) 4⟩])
.ret)))))))))
(.seq (.reg [q 69 4 2,
l 70 69,
m 71 70,
⟨some 72,some (71,true),.fad (t 5) 2⟩,
⟨some 73,some (71,true),.load (t 72) 1 false⟩,
d 74 (.pick (t 71) (t 73) (.cst (.bool false))),
q 75 8 2,
⟨none,none,.store (t 75) (t 74) 1⟩])
(.seq (.seq (.reg [q 76 8 2,
l 77 76,
d 78 (.un .not (t 77))])
(.cond (t 78)
(.reg [q 79 8 3,
⟨none,none,.store (t 79) (w 0) 1⟩])
.skip))
(.seq (.reg [d 80 (.load (t 8) 4 true),
⟨none,none,.store (t 6) (t 80) 4⟩])
.ret)))))))))⟩
theorem tr92:trF Tryd.prog h0 Tryd.f92=some ir92:=by kernel_rfl
def ir93:IFn:=⟨15,[.tmp 2 false],
.seq (.reg [d 2 (.mv (i 0))])
(.seq (.seq (.reg [m 3 0,
d 4 (.nilc (t 3)),
q 5 4 6,
l 6 5,
b 7 .geq (t 6) (i 10000)])
(.cond (t 7)
(.seq (.reg [d 2 (.mv (i 2))])
.ret)
.skip))
(.seq (.reg [m 8 0,
d 9 (.nilc (t 8)),
q 10 9 6,
l 11 10,
b 12 .add (t 11) (i 1),
d 13 (.nilc (t 8)),
q 14 13 6,
⟨none,none,.store (t 14) (t 12) 1⟩])
(.seq (.reg [d 2 (.mv (i 0))])
.ret)))⟩
theorem tr93:trF Tryd.prog h0 Tryd.f93=some ir93:=by kernel_rfl
def ir94:IFn:=⟨33,[.tmp 4 false,.tmp 5 false],
.seq (.reg [d 4 (.mv (.cst (.vec [] .full))),
d 5 (.mv (i 0))])
(.seq (.reg [d 6 (.mv (.cst (.vec [] .full)))])
(.seq (.seq (.reg [d 7 (.mv (i 0))])
(.block 0
(.loop [0,1,6,7]
(.seq (.seq (.reg [m 10 7,
m 11 1,
d 12 (.len .i (t 11)),
b 13 .lss (t 10) (t 12)])
(.cond (t 13)
.skip
(.brk 0)))
(.seq (.block 1
(.seq (.reg [m 17 0,
m 18 1,
m 19 7,
d 20 (.idxS (t 18) (t 19) 5),
d 21 (.load (t 20) 5 true),
k 22 103 [t 17,t 21],
m 16 22,
d 23 (.ext (t 16) 0),
d 24 (.ext (t 16) 1),
d 8 (.allocz [i0,i0,(.bool false),w0] false),
⟨none,none,.store (t 8) (t 23) 4⟩,
m 9 24])
(.seq (.seq (.reg [m 25 9,
b 26 .neq (t 25) (i 0)])
(.cond (t 26)
(.seq (.reg [m 27 9,
d 4 (.mv (.cst (.vec [] .full))),
m 5 27])
.ret)
.skip))
(.reg [m 28 6,
d 29 (.load (t 8) 4 true),
d 30 (.bsl 1 4 true [i0,i0,(.bool false),w0] [(0,4,(t 29))]),
d 31 (.app (t 28) (t 30) 4 32 true false),
m 6 31]))))
(.reg [m 14 7,
b 15 .add (t 14) (i 1),
m 7 15]))))))
(.seq (.reg [m 32 6,
m 4 32,
d 5 (.mv (i 0))])
.ret)))⟩
theorem tr94:trF Tryd.prog (h [] [] [[0,1,6,7]] [] false) Tryd.f94=some ir94:=by kernel_rfl
def ir95:IFn:=⟨30,[.tmp 4 false],
.seq (.reg [d 4 (.mv (.cst (.bool false)))])
(.seq (.reg [m 5 0,
d 6 (.nilc (t 5)),
q 7 6 0,
d 8 (.load (t 7) 3 true),
m 9 1,
k 10 104 [t 8,t 9],
b 11 .geq (t 10) (i 0),
m 12 11,
⟨some 13,some (12,false),.mv (t 0)⟩,
⟨some 14,some (12,false),.nilc (t 13)⟩,
⟨some 15,some (12,false),.fad (t 14) 0⟩,
⟨some 16,some (12,false),.load (t 15) 3 true⟩,
⟨some 17,some (12,false),.mv (t 1)⟩,
⟨some 18,some (12,false),.call 98 [t 16,t 17]⟩,
⟨some 19,some (12,false),.bin .geq .plain (t 18) (i 0)⟩,
d 20 (.pick (t 12) (.cst (.bool true)) (t 19)),
m 21 20,
⟨some 22,some (21,false),.mv (t 0)⟩,
⟨some 23,some (21,false),.nilc (t 22)⟩,
⟨some 24,some (21,false),.fad (t 23) 4⟩,
⟨some 25,some (21,false),.load (t 24) 1 false⟩,
⟨some 26,some (21,false),.mv (t 1)⟩,
⟨some 27,some (21,false),.call 105 [t 25,t 26]⟩,
⟨some 28,some (21,false),.bin .geq .plain (t 27) (i 0)⟩,
d 29 (.pick (t 21) (.cst (.bool true)) (t 28)),
m 4 29])
.ret)⟩
theorem tr95:trF Tryd.prog h0 Tryd.f95=some ir95:=by kernel_rfl
def ir96:IFn:=⟨28,[.tmp 4 true],
.seq (.reg [d 4 (.mv (.cst (.vec [] .full)))])
(.seq (.reg [d 5 (.mv (.cst (.vec [] .full)))])
(.seq (.seq (.reg [d 6 (.mv (i 0))])
(.block 0
(.loop [0,1,5,6]
(.seq (.seq (.reg [m 7 6,
m 8 0,
d 9 (.len .i (t 8)),
b 10 .lss (t 7) (t 9)])
(.cond (t 10)
.skip
(.brk 0)))
(.seq (.block 1
(.seq (.reg [m 13 0,
m 14 6,
d 15 (.idxS (t 13) (t 14) 5),
q 16 15 0,
l 17 16,
m 18 1,
b 19 .neq (t 17) (t 18)])
(.cond (t 19)
(.reg [m 20 5,
m 21 0,
m 22 6,
d 23 (.idxS (t 21) (t 22) 5),
d 24 (.load (t 23) 5 true),
d 25 (.bsl 1 5 true [s0,i0,i0,(.bool false),w0] [(0,5,(t 24))]),
d 26 (.app (t 20) (t 25) 5 48 true false),
m 5 26])
.skip)))
(.reg [m 11 6,
b 12 .add (t 11) (i 1),
m 6 12]))))))
(.seq (.reg [m 27 5,
m 4 27])
.ret)))⟩
theorem tr96:trF Tryd.prog (h [] [] [[0,1,5,6]] [] true) Tryd.f96=some ir96:=by kernel_rfl
def ir97:IFn:=⟨8,[.cell 2 4 true false],
.seq (.reg [d 1 (.box (t 0) false),
d 2 (.allocz [i0,i0,(.bool false),w0] false)])
(.seq (.reg [q 3 1 0,
l 4 3,
q 5 1 1,
l 6 5,
d 7 (.bld [i0,i0,(.bool false),w0] [(0,1,(t 4)),(1,1,(t 6))]),
⟨none,none,.store (t 2) (t 7) 4⟩])
.ret)⟩
theorem tr97:trF Tryd.prog h0 Tryd.f97=some ir97:=by kernel_rfl
def ir98:IFn:=⟨22,[.tmp 4 false],
.seq (.reg [d 2 (.box (t 0) false),
d 4 (.mv (i 0))])
(.seq (.seq (.reg [d 5 (.mv (i 0))])
(.block 0
(.loop [1,2,5]
(.seq (.seq (.reg [m 6 5,
q 7 2 1,
l 8 7,
d 9 (.len .i (t 8)),
b 10 .lss (t 6) (t 9)])
(.cond (t 10)
.skip
(.brk 0)))
(.seq (.block 1
(.seq (.reg [q 13 2 1,
l 14 13,
m 15 5,
d 16 (.idxS (t 14) (t 15) 2),
q 17 16 0,
l 18 17,
m 19 1,
b 20 .eql (t 18) (t 19)])
(.cond (t 20)
(.seq (.reg [m 21 5,
m 4 21])
.ret)
.skip)))
(.reg [m 11 5,
b 12 .add (t 11) (i 1),
m 5 12]))))))
(.seq (.reg [d 4 (.mv (.cst (.int .i64 (-1))))])
.ret))⟩
theorem tr98:trF Tryd.prog (h [] [] [[1,2,5]] [] false) Tryd.f98=some ir98:=by kernel_rfl
def ir99:IFn:=⟨22,[.tmp 4 false,.tmp 5 false],
.seq (.reg [d 2 (.box (t 0) false),
d 4 (.mv (i 0)),
d 5 (.mv (i 0))])
(.seq (.seq (.reg [q 6 2 0,
l 7 6,
b 8 .neq (t 7) (i 1),
m 9 8,
⟨some 10,some (9,false),.fad (t 2) 2⟩,
⟨some 11,some (9,false),.load (t 10) 1 false⟩,
⟨some 12,some (9,false),.un .not (t 11)⟩,
d 13 (.pick (t 9) (.cst (.bool true)) (t 12))])
(.cond (t 13)
(.seq (.reg [d 4 (.mv (i 0)),
d 5 (.mv (i 1))])
.ret)
.skip))
(.seq (.seq (.reg [q 14 2 3,
l 15 14,
m 16 1,
d 17 (.cvI .u64 (t 16)),
b 18 .geq (t 15) (t 17)])
(.cond (t 18)
(.seq (.reg [d 4 (.mv (i 0)),
d 5 (.mv (i 13))])
.ret)
.skip))
(.seq (.reg [q 19 2 3,
l 20 19,
d 21 (.cvI .i64 (t 20)),
m 4 21,
d 5 (.mv (i 0))])
.ret)))⟩
theorem tr99:trF Tryd.prog h0 Tryd.f99=some ir99:=by kernel_rfl
def ir100:IFn:=⟨126,[.tmp 6 false],
.seq (.reg [d 4 (.box (t 1) false),
d 5 (.box (t 2) false),
d 6 (.mv (i 0))])
(.seq (.seq (.reg [q 14 5 0,
l 15 14,
b 16 .neq (t 15) (i 2)])
(.cond (t 16)
(.seq (.reg [d 6 (.mv (i 5))])
.ret)
.skip))
(.seq (.draw [(d 17 (.bsl 0 5 true [s0,i0,i0,(.bool false),w0] []),0,[]),
(m 18 0,1,[]),
(d 19 (.nilc (t 18)),2,[]),
(q 20 19 3,3,[]),
(l 21 20,4,[]),
(m 23 0,6,[]),
(d 24 (.nilc (t 23)),7,[]),
(q 25 24 5,8,[]),
(l 26 25,9,[]),
(d 22 (.app (t 17) (t 21) 5 48 true false),5,[8]),
(k 27 106 [t 26],10,[]),
(m 7 22,11,[]),
(m 8 27,12,[])])
(.seq (.reg [m 28 0,
d 29 (.nilc (t 28)),
q 30 29 8,
l 31 30,
b 32 .add (t 31) (i 1),
d 33 (.nilc (t 28)),
q 34 33 8,
⟨none,none,.store (t 34) (t 32) 1⟩])
(.seq (.reg [m 35 0,
q 36 4 3,
l 37 36,
k 38 74 [t 35,t 37],
m 9 38])
(.seq (.seq (.reg [m 39 9,
b 40 .neq (t 39) (i 0)])
(.cond (t 40)
(.seq (.reg [m 41 9,
m 6 41])
.ret)
.skip))
(.seq (.draw [(m 42 0,0,[]),
(d 43 (.nilc (t 42)),1,[]),
(q 44 43 3,2,[]),
(l 45 44,3,[]),
(m 46 0,4,[]),
(d 47 (.nilc (t 46)),5,[]),
(q 48 47 5,6,[]),
(l 49 48,7,[]),
(m 10 45,8,[]),
(m 11 49,9,[])])
(.seq (.reg [m 50 0,
m 51 0,
d 52 (.bsl 0 5 true [s0,i0,i0,(.bool false),w0] []),
m 53 7,
d 54 (.app (t 52) (t 53) 5 48 true false),
m 55 8,
d 56 (.nilc (t 50)),
q 57 56 3,
⟨none,none,.store (t 57) (t 54) 1⟩,
d 58 (.nilc (t 51)),
q 59 58 5,
⟨none,none,.store (t 59) (t 55) 1⟩])
(.seq (.reg [m 60 0,
q 61 4 4,
l 62 61,
k 63 74 [t 60,t 62],
m 9 63])
(.seq (.seq (.reg [m 64 9,
b 65 .neq (t 64) (i 0)])
(.cond (t 65)
(.seq (.reg [m 66 9,
m 6 66])
.ret)
.skip))
(.seq (.reg [m 67 0,
d 68 (.nilc (t 67)),
q 69 68 8,
l 70 69,
b 71 .sub (t 70) (i 1),
d 72 (.nilc (t 67)),
q 73 72 8,
⟨none,none,.store (t 73) (t 71) 1⟩])
(.seq (.reg [m 74 0,
m 75 7,
m 76 10,
m 77 0,
d 78 (.nilc (t 77)),
q 79 78 3,
l 80 79,
k 81 107 [t 75,t 76,t 80],
d 82 (.nilc (t 74)),
q 83 82 3,
⟨none,none,.store (t 83) (t 81) 1⟩])
(.seq (.seq (.reg [d 12 (.mv (i 0))])
(.block 0
(.loop [0,11,12]
(.seq (.seq (.reg [m 84 12,
m 85 11,
d 86 (.len .i (t 85)),
b 87 .lss (t 84) (t 86)])
(.cond (t 87)
.skip
(.brk 0)))
(.seq (.block 1
(.seq (.reg [d 13 (.mv (i 0))])
(.block 2
(.loop [0,11,12,13]
(.seq (.seq (.reg [m 90 13,
m 91 11,
m 92 12,
d 93 (.idxS (t 91) (t 92) 1),
l 94 93,
d 95 (.len .i (t 94)),
b 96 .lss (t 90) (t 95)])
(.cond (t 96)
.skip
(.brk 2)))
(.seq (.block 3
(.draw [(m 99 0,0,[]),
(d 100 (.nilc (t 99)),1,[]),
(q 101 100 5,2,[]),
(l 102 101,3,[]),
(m 103 12,4,[]),
(d 104 (.idxS (t 102) (t 103) 1),5,[]),
(l 105 104,6,[]),
(m 106 13,7,[]),
(m 107 0,8,[]),
(d 108 (.nilc (t 107)),9,[]),
(q 109 108 5,10,[]),
(l 110 109,11,[]),
(m 111 12,12,[]),
(d 112 (.idxS (t 110) (t 111) 1),13,[]),
(l 113 112,14,[]),
(m 114 13,15,[]),
(d 115 (.idxS (t 113) (t 114) 1),16,[]),
(l 116 115,17,[]),
(m 117 11,18,[]),
(m 118 12,19,[]),
(d 119 (.idxS (t 117) (t 118) 1),20,[]),
(l 120 119,21,[]),
(m 121 13,22,[]),
(d 122 (.idxS (t 120) (t 121) 1),23,[]),
(l 123 122,24,[]),
(d 124 (.max [t 116,t 123]),25,[]),
(d 125 (.idxS (t 105) (t 106) 1),26,[]),
(⟨none,none,.store (t 125) (t 124) 1⟩,27,[])]))
(.reg [m 97 13,
b 98 .add (t 97) (i 1),
m 13 98])))))))
(.reg [m 88 12,
b 89 .add (t 88) (i 1),
m 12 89]))))))
(.seq (.reg [d 6 (.mv (i 0))])
.ret)))))))))))))⟩
theorem tr100:trF Tryd.prog (h [] [] [[0,11,12],[0,11,12,13]] [(3,([0,0,2,6,14,31,0,64,192,448,1023,2047,4095],[(0,[]),(1,[]),(2,[]),(3,[]),(4,[]),(6,[]),(7,[]),(8,[]),(9,[]),(5,[8]),(10,[]),(11,[]),(12,[])])),(8,([0,1,3,7,0,16,48,112,15,511],[(0,[]),(1,[]),(2,[]),(3,[]),(4,[]),(5,[]),(6,[]),(7,[]),(8,[]),(9,[])])),(21,([0,1,3,7,0,31,63,0,0,256,768,1792,0,7936,16128,0,65280,130816,0,0,786432,1835008,0,8126464,16515072,33554176,67108863,134217727],[(0,[]),(1,[]),(2,[]),(3,[]),(4,[]),(5,[]),(6,[]),(7,[]),(8,[]),(9,[]),(10,[]),(11,[]),(12,[]),(13,[]),(14,[]),(15,[]),(16,[]),(17,[]),(18,[]),(19,[]),(20,[]),(21,[]),(22,[]),(23,[]),(24,[]),(25,[]),(26,[]),(27,[])]))] false) Tryd.f100=some ir100:=by kernel_rfl
def ir101:IFn:=⟨85,[.tmp 8 false],
.seq (.reg [d 5 (.box (t 1) false),
d 6 (.box (t 2) false),
d 7 (.box (t 3) false),
d 8 (.mv (i 0))])
(.seq (.seq (.reg [q 12 6 0,
l 13 12,
b 14 .neq (t 13) (i 1),
m 15 14,
⟨some 16,some (15,false),.fad (t 7) 0⟩,
⟨some 17,some (15,false),.load (t 16) 1 false⟩,
⟨some 18,some (15,false),.bin .neq .plain (t 17) (i 1)⟩,
d 19 (.pick (t 15) (.cst (.bool true)) (t 18)),
m 20 19,
⟨some 21,some (20,false),.fad (t 6) 2⟩,
⟨some 22,some (20,false),.load (t 21) 1 false⟩,
⟨some 23,some (20,false),.un .not (t 22)⟩,
d 24 (.pick (t 20) (.cst (.bool true)) (t 23)),
m 25 24,
⟨some 26,some (25,false),.fad (t 7) 2⟩,
⟨some 27,some (25,false),.load (t 26) 1 false⟩,
⟨some 28,some (25,false),.un .not (t 27)⟩,
d 29 (.pick (t 25) (.cst (.bool true)) (t 28))])
(.cond (t 29)
(.seq (.reg [d 8 (.mv (i 1))])
.ret)
.skip))
(.seq (.seq (.reg [m 30 0,
q 31 5 1,
l 32 31,
k 33 95 [t 30,t 32]])
(.cond (t 33)
(.seq (.reg [d 8 (.mv (i 4))])
.ret)
.skip))
(.seq (.draw [(m 34 0,0,[]),
(m 35 0,1,[]),
(d 36 (.nilc (t 35)),2,[]),
(q 37 36 3,3,[]),
(l 38 37,4,[]),
(q 39 5 1,5,[]),
(l 40 39,6,[]),
(k 41 96 [t 38,t 40],7,[]),
(d 42 (.nilc (t 34)),8,[]),
(q 43 42 3,9,[]),
(⟨none,none,.store (t 43) (t 41) 1⟩,10,[])])
(.seq (.seq (.reg [q 44 6 3,
l 45 44,
m 9 45])
(.block 0
(.loop [0,5,7,9]
(.seq (.seq (.reg [m 46 9,
q 47 7 3,
l 48 47,
b 49 .leq (t 46) (t 48)])
(.cond (t 49)
.skip
(.brk 0)))
(.seq (.block 1
(.seq (.reg [m 52 0,
k 53 93 [t 52],
m 10 53])
(.seq (.seq (.reg [m 54 10,
b 55 .neq (t 54) (i 0)])
(.cond (t 55)
(.seq (.reg [m 56 10,
m 8 56])
.ret)
.skip))
(.seq (.reg [m 57 0,
d 58 (.nilc (t 57)),
q 59 58 4,
l 60 59,
m 11 60])
(.seq (.draw [(m 61 0,0,[]),
(d 62 (.bsl 0 5 true [s0,i0,i0,(.bool false),w0] []),1,[]),
(m 63 11,2,[]),
(q 65 5 1,4,[]),
(l 66 65,5,[]),
(m 67 9,6,[]),
(d 64 (.app (t 62) (t 63) 5 48 true false),3,[4]),
(k 68 108 [t 67],7,[4]),
(d 69 (.bld [s0,i0,i0,(.bool false),w0] [(0,1,(t 66)),(1,4,(t 68))]),8,[]),
(d 70 (.bsl 1 5 true [s0,i0,i0,(.bool false),w0] [(0,5,(t 69))]),9,[]),
(d 71 (.app (t 64) (t 70) 5 48 true false),10,[]),
(d 72 (.nilc (t 61)),11,[]),
(q 73 72 4,12,[]),
(⟨none,none,.store (t 73) (t 71) 1⟩,13,[])])
(.seq (.reg [m 74 0,
q 75 5 3,
l 76 75,
k 77 74 [t 74,t 76],
m 10 77])
(.seq (.seq (.reg [m 78 10,
b 79 .neq (t 78) (i 0)])
(.cond (t 79)
(.seq (.reg [m 80 10,
m 8 80])
.ret)
.skip))
(.reg [m 81 0,
m 82 11,
d 83 (.nilc (t 81)),
q 84 83 4,
⟨none,none,.store (t 84) (t 82) 1⟩]))))))))
(.reg [m 50 9,
b 51 .add (t 50) (w 1),
m 9 51]))))))
(.seq (.reg [d 8 (.mv (i 0))])
.ret)))))⟩
theorem tr101:trF Tryd.prog (h [] [] [[0,5,7,9]] [(5,([0,0,2,6,14,0,32,126,255,511,1023],[(0,[]),(1,[]),(2,[]),(3,[]),(4,[]),(5,[]),(6,[]),(7,[]),(8,[]),(9,[]),(10,[])])),(13,([0,0,0,6,0,16,0,78,254,510,1022,2047,4095,8191],[(0,[]),(1,[]),(2,[]),(4,[]),(5,[]),(6,[]),(3,[4]),(7,[4]),(8,[]),(9,[]),(10,[]),(11,[]),(12,[]),(13,[])]))] false) Tryd.f101=some ir101:=by kernel_rfl
def ir102:IFn:=⟨5,[.cell 2 4 true false],
.seq (.reg [d 2 (.allocz [i0,i0,(.bool false),w0] false)])
(.seq (.reg [m 3 0,
d 4 (.bld [i0,i0,(.bool false),w0] [(0,1,(i 1)),(1,1,(t 3))]),
⟨none,none,.store (t 2) (t 4) 4⟩])
.ret)⟩
theorem tr102:trF Tryd.prog h0 Tryd.f102=some ir102:=by kernel_rfl
def ir103:IFn:=⟨49,[.cell 4 4 true false,.tmp 5 false],
.seq (.reg [d 3 (.box (t 1) false),
d 4 (.allocz [i0,i0,(.bool false),w0] false),
d 5 (.mv (i 0))])
(.seq (.reg [m 10 0,
q 11 3 4,
l 12 11,
k 13 94 [t 10,t 12],
m 9 13,
d 14 (.ext (t 9) 0),
d 15 (.ext (t 9) 1),
m 6 14,
m 7 15])
(.seq (.seq (.reg [m 16 7,
b 17 .neq (t 16) (i 0)])
(.cond (t 17)
(.seq (.reg [d 18 (.bld [i0,i0,(.bool false),w0] []),
m 19 7,
⟨none,none,.store (t 4) (t 18) 4⟩,
m 5 19])
.ret)
.skip))
(.seq (.reg [m 21 0,
d 22 (.load (t 3) 5 true),
m 23 6,
k 24 109 [t 21,t 22,t 23],
m 20 24,
d 25 (.ext (t 20) 0),
d 26 (.ext (t 20) 1),
d 8 (.allocz [i0,i0,(.bool false),w0] false),
⟨none,none,.store (t 8) (t 25) 4⟩,
m 7 26])
(.seq (.seq (.reg [m 27 7,
b 28 .neq (t 27) (i 0)])
(.cond (t 28)
(.seq (.reg [d 29 (.bld [i0,i0,(.bool false),w0] []),
m 30 7,
⟨none,none,.store (t 4) (t 29) 4⟩,
m 5 30])
.ret)
.skip))
(.seq (.seq (.reg [q 31 8 0,
l 32 31,
b 33 .eql (t 32) (i 1)])
(.cond (t 33)
(.seq (.seq (.reg [q 34 8 1,
l 35 34,
b 36 .gtr (t 35) (i 60)])
(.cond (t 36)
(.seq (.reg [d 37 (.bld [i0,i0,(.bool false),w0] []),
⟨none,none,.store (t 4) (t 37) 4⟩,
d 5 (.mv (i 11))])
.ret)
.skip))
(.draw [(m 38 0,0,[]),
(m 39 0,1,[]),
(d 40 (.nilc (t 39)),2,[]),
(q 41 40 7,3,[]),
(l 42 41,4,[]),
(q 43 8 1,5,[]),
(l 44 43,6,[]),
(d 45 (.max [t 42,t 44]),7,[]),
(d 46 (.nilc (t 38)),8,[]),
(q 47 46 7,9,[]),
(⟨none,none,.store (t 47) (t 45) 1⟩,10,[])]))
.skip))
(.seq (.reg [d 48 (.load (t 8) 4 true),
⟨none,none,.store (t 4) (t 48) 4⟩,
d 5 (.mv (i 0))])
.ret))))))⟩
theorem tr103:trF Tryd.prog (h [] [] [] [(10,([0,0,2,6,14,0,32,126,255,511,1023],[(0,[]),(1,[]),(2,[]),(3,[]),(4,[]),(5,[]),(6,[]),(7,[]),(8,[]),(9,[]),(10,[])]))] false) Tryd.f103=some ir103:=by kernel_rfl
def ir104:IFn:=⟨22,[.tmp 4 false],
.seq (.reg [d 2 (.box (t 0) false),
d 4 (.mv (i 0))])
(.seq (.seq (.reg [d 5 (.mv (i 0))])
(.block 0
(.loop [1,2,5]
(.seq (.seq (.reg [m 6 5,
q 7 2 0,
l 8 7,
d 9 (.len .i (t 8)),
b 10 .lss (t 6) (t 9)])
(.cond (t 10)
.skip
(.brk 0)))
(.seq (.block 1
(.seq (.reg [q 13 2 0,
l 14 13,
m 15 5,
d 16 (.idxS (t 14) (t 15) 4),
q 17 16 0,
l 18 17,
m 19 1,
b 20 .eql (t 18) (t 19)])
(.cond (t 20)
(.seq (.reg [m 21 5,
m 4 21])
.ret)
.skip)))
(.reg [m 11 5,
b 12 .add (t 11) (i 1),
m 5 12]))))))
(.seq (.reg [d 4 (.mv (.cst (.int .i64 (-1))))])
.ret))⟩
theorem tr104:trF Tryd.prog (h [] [] [[1,2,5]] [] false) Tryd.f104=some ir104:=by kernel_rfl
def ir105:IFn:=⟨20,[.tmp 4 false],
.seq (.reg [d 4 (.mv (i 0))])
(.seq (.seq (.reg [d 5 (.mv (i 0))])
(.block 0
(.loop [0,1,5]
(.seq (.seq (.reg [m 6 5,
m 7 0,
d 8 (.len .i (t 7)),
b 9 .lss (t 6) (t 8)])
(.cond (t 9)
.skip
(.brk 0)))
(.seq (.block 1
(.seq (.reg [m 12 0,
m 13 5,
d 14 (.idxS (t 12) (t 13) 5),
q 15 14 0,
l 16 15,
m 17 1,
b 18 .eql (t 16) (t 17)])
(.cond (t 18)
(.seq (.reg [m 19 5,
m 4 19])
.ret)
.skip)))
(.reg [m 10 5,
b 11 .add (t 10) (i 1),
m 5 11]))))))
(.seq (.reg [d 4 (.mv (.cst (.int .i64 (-1))))])
.ret))⟩
theorem tr105:trF Tryd.prog (h [] [] [[0,1,5]] [] false) Tryd.f105=some ir105:=by kernel_rfl
def ir106:IFn:=⟨21,[.tmp 2 false],
.seq (.reg [d 2 (.mv (.cst (.vec [] .full)))])
(.seq (.reg [d 3 (.mv (.cst (.vec [] .full)))])
(.seq (.seq (.reg [d 4 (.mv (i 0))])
(.block 0
(.loop [0,3,4]
(.seq (.seq (.reg [m 5 4,
m 6 0,
d 7 (.len .i (t 6)),
b 8 .lss (t 5) (t 7)])
(.cond (t 8)
.skip
(.brk 0)))
(.seq (.block 1
(.reg [m 11 3,
d 12 (.bsl 0 1 false [i0] []),
m 13 0,
m 14 4,
d 15 (.idxS (t 13) (t 14) 1),
l 16 15,
d 17 (.app (t 12) (t 16) 1 8 false true),
d 18 (.bsl 1 1 false [v0] [(0,1,(t 17))]),
d 19 (.app (t 11) (t 18) 1 24 false true),
m 3 19]))
(.reg [m 9 4,
b 10 .add (t 9) (i 1),
m 4 10]))))))
(.seq (.reg [m 20 3,
m 2 20])
.ret)))⟩
theorem tr106:trF Tryd.prog (h [17,19] [] [[0,3,4]] [] false) Tryd.f106=some ir106:=by kernel_rfl
def ir107:IFn:=⟨82,[.tmp 6 false],
.seq (.reg [d 6 (.mv (.cst (.vec [] .full)))])
(.seq (.reg [d 7 (.mv (.cst (.vec [] .full)))])
(.seq (.seq (.reg [d 8 (.mv (i 0))])
(.block 0
(.loop [0,1,2,7,8]
(.seq (.seq (.reg [m 11 8,
m 12 0,
d 13 (.len .i (t 12)),
b 14 .lss (t 11) (t 13)])
(.cond (t 14)
.skip
(.brk 0)))
(.seq (.block 1
(.seq (.draw [(m 17 1,0,[]),
(m 18 0,1,[]),
(m 19 8,2,[]),
(d 20 (.idxS (t 18) (t 19) 5),3,[]),
(q 21 20 0,4,[]),
(l 22 21,5,[]),
(m 24 2,7,[]),
(m 25 0,8,[]),
(m 26 8,9,[]),
(d 27 (.idxS (t 25) (t 26) 5),10,[]),
(q 28 27 0,11,[]),
(l 29 28,12,[]),
(k 23 105 [t 17,t 22],6,[11]),
(k 30 105 [t 24,t 29],13,[]),
(m 9 23,14,[]),
(m 10 30,15,[])])
(.seq (.draw [(m 31 9,0,[]),
(b 32 .geq (t 31) (i 0),1,[]),
(m 33 32,2,[]),
(⟨some 34,some (33,true),.mv (t 10)⟩,3,[]),
(⟨some 35,some (33,true),.bin .geq .plain (t 34) (i 0)⟩,4,[]),
(d 36 (.pick (t 33) (t 35) (.cst (.bool false))),5,[]),
(m 37 36,6,[]),
(⟨some 38,some (37,true),.mv (t 1)⟩,7,[]),
(⟨some 39,some (37,true),.mv (t 9)⟩,8,[]),
(⟨some 40,some (37,true),.idxS (t 38) (t 39) 5⟩,9,[]),
(⟨some 41,some (37,true),.fad (t 40) 1⟩,10,[]),
(⟨some 42,some (37,true),.fad (t 41) 0⟩,11,[]),
(⟨some 43,some (37,true),.load (t 42) 1 false⟩,12,[]),
(⟨some 44,some (37,true),.mv (t 2)⟩,13,[]),
(⟨some 45,some (37,true),.mv (t 10)⟩,14,[]),
(⟨some 46,some (37,true),.idxS (t 44) (t 45) 5⟩,15,[]),
(⟨some 47,some (37,true),.fad (t 46) 1⟩,16,[]),
(⟨some 48,some (37,true),.fad (t 47) 0⟩,17,[]),
(⟨some 49,some (37,true),.load (t 48) 1 false⟩,18,[]),
(⟨some 50,some (37,true),.bin .eql .plain (t 43) (t 49)⟩,19,[]),
(d 51 (.pick (t 37) (t 50) (.cst (.bool false))),20,[])])
(.cond (t 51)
(.draw [(m 52 7,0,[]),
(m 53 0,1,[]),
(m 54 8,2,[]),
(d 55 (.idxS (t 53) (t 54) 5),3,[]),
(q 56 55 0,4,[]),
(l 57 56,5,[]),
(m 58 1,6,[]),
(m 59 9,7,[]),
(d 60 (.idxS (t 58) (t 59) 5),8,[]),
(q 61 60 1,9,[]),
(q 62 61 0,10,[]),
(l 63 62,11,[]),
(m 64 1,12,[]),
(m 65 9,13,[]),
(d 66 (.idxS (t 64) (t 65) 5),14,[]),
(q 67 66 1,15,[]),
(q 68 67 1,16,[]),
(l 69 68,17,[]),
(m 70 2,18,[]),
(m 71 10,19,[]),
(d 72 (.idxS (t 70) (t 71) 5),20,[]),
(q 73 72 1,21,[]),
(q 74 73 1,22,[]),
(l 75 74,23,[]),
(d 76 (.max [t 69,t 75]),24,[]),
(d 77 (.bld [i0,i0,(.bool false),w0] [(0,1,(t 63)),(1,1,(t 76))]),25,[]),
(d 78 (.bld [s0,i0,i0,(.bool false),w0] [(0,1,(t 57)),(1,4,(t 77))]),26,[]),
(d 79 (.bsl 1 5 true [s0,i0,i0,(.bool false),w0] [(0,5,(t 78))]),27,[]),
(d 80 (.app (t 52) (t 79) 5 48 true false),28,[]),
(m 7 80,29,[])])
.skip))))
(.reg [m 15 8,
b 16 .add (t 15) (i 1),
m 8 16]))))))
(.seq (.reg [m 81 7,
m 6 81])
.ret)))⟩
theorem tr107:trF Tryd.prog (h [] [] [[0,1,2,7,8]] [(5,([0,0,0,6,14,30,63,0,0,0,768,1792,3840,8191,16383,32767],[(0,[]),(1,[]),(2,[]),(3,[]),(4,[]),(5,[]),(7,[]),(8,[]),(9,[]),(10,[]),(11,[]),(12,[]),(6,[11]),(13,[]),(14,[]),(15,[])])),(6,([0,1,3,7,15,31,63,127,127,511,1023,2047,4095,127,127,24703,57471,123007,254079,524287,1048575],[(0,[]),(1,[]),(2,[]),(3,[]),(4,[]),(5,[]),(6,[]),(7,[]),(8,[]),(9,[]),(10,[]),(11,[]),(12,[]),(13,[]),(14,[]),(15,[]),(16,[]),(17,[]),(18,[]),(19,[]),(20,[])])),(7,([0,0,0,6,14,30,0,0,192,448,960,1984,0,0,12288,28672,61440,126976,0,0,786432,1835008,3932160,8126464,16773120,33554368,67108862,134217726,268435455,536870911],[(0,[]),(1,[]),(2,[]),(3,[]),(4,[]),(5,[]),(6,[]),(7,[]),(8,[]),(9,[]),(10,[]),(11,[]),(12,[]),(13,[]),(14,[]),(15,[]),(16,[]),(17,[]),(18,[]),(19,[]),(20,[]),(21,[]),(22,[]),(23,[]),(24,[]),(25,[]),(26,[]),(27,[]),(28,[]),(29,[])]))] false) Tryd.f107=some ir107:=by kernel_rfl
def ir108:IFn:=⟨7,[.cell 2 4 true false],
.seq (.reg [d 2 (.allocz [i0,i0,(.bool false),w0] false)])
(.seq (.reg [m 3 0,
k 4 38 [t 3],
m 5 0,
d 6 (.bld [i0,i0,(.bool false),w0] [(0,1,(i 1)),(1,1,(t 4)),(2,1,(.cst (.bool true))),(3,1,(t 5))]),
⟨none,none,.store (t 2) (t 6) 4⟩])
.ret)⟩
theorem tr108:trF Tryd.prog h0 Tryd.f108=some ir108:=by kernel_rfl
def ir109:IFn:=⟨87,[.cell 6 4 true false,.tmp 7 false],
.seq (.reg [d 4 (.box (t 1) false),
d 6 (.allocz [i0,i0,(.bool false),w0] false),
d 7 (.mv (i 0))])
(.seq (.seq (.reg [q 8 4 0,
l 9 8])
(.block 0
(.seq (.reg [b 11 .eql (t 9) (i 1),
m 10 11])
(.cond (t 10)
(.seq (.reg [q 12 4 2,
l 13 12,
k 14 108 [t 13],
⟨none,none,.store (t 6) (t 14) 4⟩,
d 7 (.mv (i 0))])
.ret)
(.seq (.reg [b 16 .eql (t 9) (i 2),
m 15 16])
(.cond (t 15)
(.seq (.reg [m 17 0,
q 18 4 3,
l 19 18,
k 20 110 [t 17,t 19],
d 21 (.ext (t 20) 0),
d 22 (.ext (t 20) 1),
⟨none,none,.store (t 6) (t 21) 4⟩,
m 7 22])
.ret)
(.seq (.reg [b 24 .eql (t 9) (i 3),
m 23 24])
(.cond (t 23)
(.seq (.draw [(m 25 0,0,[]),
(q 26 4 3,1,[]),
(l 27 26,2,[]),
(m 28 2,3,[]),
(d 29 (.idxS (t 28) (i 0) 4),4,[]),
(d 30 (.load (t 29) 4 true),5,[]),
(k 31 111 [t 25,t 27,t 30],6,[]),
(d 32 (.ext (t 31) 0),7,[]),
(d 33 (.ext (t 31) 1),8,[]),
(⟨none,none,.store (t 6) (t 32) 4⟩,9,[]),
(m 7 33,10,[])])
.ret)
(.seq (.reg [b 35 .eql (t 9) (i 4),
m 34 35])
(.cond (t 34)
(.seq (.draw [(q 36 4 1,0,[]),
(l 37 36,1,[]),
(m 38 2,2,[]),
(d 39 (.idxS (t 38) (i 0) 4),3,[]),
(d 40 (.load (t 39) 4 true),4,[]),
(m 41 2,5,[]),
(d 42 (.idxS (t 41) (i 1) 4),6,[]),
(d 43 (.load (t 42) 4 true),7,[]),
(k 44 112 [t 37,t 40,t 43],8,[]),
(d 45 (.ext (t 44) 0),9,[]),
(d 46 (.ext (t 44) 1),10,[]),
(⟨none,none,.store (t 6) (t 45) 4⟩,11,[]),
(m 7 46,12,[])])
.ret)
(.seq (.reg [b 48 .eql (t 9) (i 5),
m 47 48])
(.cond (t 47)
(.seq (.seq (.reg [m 49 2,
d 50 (.idxS (t 49) (i 0) 4),
q 51 50 0,
l 52 51,
b 53 .neq (t 52) (i 2)])
(.cond (t 53)
(.seq (.reg [d 54 (.bld [i0,i0,(.bool false),w0] []),
⟨none,none,.store (t 6) (t 54) 4⟩,
d 7 (.mv (i 5))])
.ret)
.skip))
(.seq (.reg [d 55 (.bld [i0,i0,(.bool false),w0] [(0,1,(i 2))]),
⟨none,none,.store (t 6) (t 55) 4⟩,
d 7 (.mv (i 0))])
.ret))
.skip))))))))))))
(.seq (.seq (.draw [(m 56 2,0,[]),
(d 57 (.idxS (t 56) (i 0) 4),1,[]),
(q 58 57 0,2,[]),
(l 59 58,3,[]),
(b 60 .neq (t 59) (i 2),4,[]),
(m 61 60,5,[]),
(⟨some 62,some (61,false),.mv (t 2)⟩,6,[]),
(⟨some 63,some (61,false),.idxS (t 62) (i 1) 4⟩,7,[]),
(⟨some 64,some (61,false),.fad (t 63) 0⟩,8,[]),
(⟨some 65,some (61,false),.load (t 64) 1 false⟩,9,[]),
(⟨some 66,some (61,false),.mv (t 2)⟩,10,[]),
(⟨some 67,some (61,false),.idxS (t 66) (i 2) 4⟩,11,[]),
(⟨some 68,some (61,false),.fad (t 67) 0⟩,12,[]),
(⟨some 69,some (61,false),.load (t 68) 1 false⟩,13,[]),
(⟨some 70,some (61,false),.bin .neq .plain (t 65) (t 69)⟩,14,[]),
(d 71 (.pick (t 61) (.cst (.bool true)) (t 70)),15,[])])
(.cond (t 71)
(.seq (.reg [d 72 (.bld [i0,i0,(.bool false),w0] []),
⟨none,none,.store (t 6) (t 72) 4⟩,
d 7 (.mv (i 5))])
.ret)
.skip))
(.seq (.draw [(m 73 2,0,[]),
(d 74 (.idxS (t 73) (i 1) 4),1,[]),
(q 75 74 0,2,[]),
(l 76 75,3,[]),
(m 77 2,4,[]),
(d 78 (.idxS (t 77) (i 1) 4),5,[]),
(q 79 78 1,6,[]),
(l 80 79,7,[]),
(m 81 2,8,[]),
(d 82 (.idxS (t 81) (i 2) 4),9,[]),
(q 83 82 1,10,[]),
(l 84 83,11,[]),
(d 85 (.max [t 80,t 84]),12,[]),
(d 86 (.bld [i0,i0,(.bool false),w0] [(0,1,(t 76)),(1,1,(t 85))]),13,[]),
(⟨none,none,.store (t 6) (t 86) 4⟩,14,[]),
(d 7 (.mv (i 0)),15,[])])
.ret)))⟩
theorem tr109:trF Tryd.prog (h [] [] [] [(7,([0,0,2,0,8,24,63,127,127,511,1023],[(0,[]),(1,[]),(2,[]),(3,[]),(4,[]),(5,[]),(6,[]),(7,[]),(8,[]),(9,[]),(10,[])])),(9,([0,1,0,4,12,0,32,96,255,511,511,2047,4095],[(0,[]),(1,[]),(2,[]),(3,[]),(4,[]),(5,[]),(6,[]),(7,[]),(8,[]),(9,[]),(10,[]),(11,[]),(12,[])])),(14,([0,1,3,7,15,31,63,127,255,511,63,1087,3135,7231,16383,32767],[(0,[]),(1,[]),(2,[]),(3,[]),(4,[]),(5,[]),(6,[]),(7,[]),(8,[]),(9,[]),(10,[]),(11,[]),(12,[]),(13,[]),(14,[]),(15,[])])),(16,([0,1,3,7,0,16,48,112,0,256,768,1792,4080,8191,16383,32767],[(0,[]),(1,[]),(2,[]),(3,[]),(4,[]),(5,[]),(6,[]),(7,[]),(8,[]),(9,[]),(10,[]),(11,[]),(12,[]),(13,[]),(14,[]),(15,[])]))] false) Tryd.f109=some ir109:=by kernel_rfl
def ir110:IFn:=⟨70,[.cell 4 4 true false,.tmp 5 false],
.seq (.reg [d 4 (.allocz [i0,i0,(.bool false),w0] false),
d 5 (.mv (i 0))])
(.seq (.reg [m 7 0,
d 8 (.nilc (t 7)),
q 9 8 4,
l 10 9,
m 11 1,
k 12 105 [t 10,t 11],
m 6 12])
(.seq (.seq (.reg [m 13 6,
b 14 .geq (t 13) (i 0)])
(.cond (t 14)
(.seq (.reg [m 15 0,
d 16 (.nilc (t 15)),
q 17 16 4,
l 18 17,
m 19 6,
d 20 (.idxS (t 18) (t 19) 5),
q 21 20 1,
d 22 (.load (t 21) 4 true),
⟨none,none,.store (t 4) (t 22) 4⟩,
d 5 (.mv (i 0))])
.ret)
.skip))
(.seq (.reg [m 23 0,
d 24 (.nilc (t 23)),
q 25 24 3,
l 26 25,
m 27 1,
k 28 105 [t 26,t 27],
m 6 28])
(.seq (.seq (.reg [m 29 6,
b 30 .geq (t 29) (i 0)])
(.cond (t 30)
(.seq (.reg [m 31 0,
d 32 (.nilc (t 31)),
q 33 32 3,
l 34 33,
m 35 6,
d 36 (.idxS (t 34) (t 35) 5),
q 37 36 1,
d 38 (.load (t 37) 4 true),
⟨none,none,.store (t 4) (t 38) 4⟩,
d 5 (.mv (i 0))])
.ret)
.skip))
(.seq (.reg [m 39 0,
d 40 (.nilc (t 39)),
q 41 40 0,
d 42 (.load (t 41) 3 true),
m 43 1,
k 44 104 [t 42,t 43],
m 6 44])
(.seq (.seq (.reg [m 45 6,
b 46 .geq (t 45) (i 0),
m 47 46,
⟨some 48,some (47,true),.mv (t 0)⟩,
⟨some 49,some (47,true),.nilc (t 48)⟩,
⟨some 50,some (47,true),.fad (t 49) 0⟩,
⟨some 51,some (47,true),.fad (t 50) 0⟩,
⟨some 52,some (47,true),.load (t 51) 1 false⟩,
⟨some 53,some (47,true),.mv (t 6)⟩,
⟨some 54,some (47,true),.idxS (t 52) (t 53) 4⟩,
⟨some 55,some (47,true),.fad (t 54) 3⟩,
⟨some 56,some (47,true),.load (t 55) 1 false⟩,
⟨some 57,some (47,true),.bin .eql .plain (t 56) (i 0)⟩,
d 58 (.pick (t 47) (t 57) (.cst (.bool false)))])
(.cond (t 58)
(.seq (.reg [m 59 0,
d 60 (.nilc (t 59)),
q 61 60 0,
q 62 61 0,
l 63 62,
m 64 6,
d 65 (.idxS (t 63) (t 64) 4),
q 66 65 2,
l 67 66,
k 68 113 [t 67],
⟨none,none,.store (t 4) (t 68) 4⟩,
d 5 (.mv (i 0))])
.ret)
.skip))
(.seq (.reg [d 69 (.bld [i0,i0,(.bool false),w0] []),
⟨none,none,.store (t 4) (t 69) 4⟩,
d 5 (.mv (i 4))])
.ret)))))))⟩
theorem tr110:trF Tryd.prog h0 Tryd.f110=some ir110:=by kernel_rfl
def ir111:IFn:=⟨97,[.cell 6 4 true false,.tmp 7 false],
.seq (.reg [d 5 (.box (t 2) false),
d 6 (.allocz [i0,i0,(.bool false),w0] false),
d 7 (.mv (i 0))])
(.seq (.draw [(m 14 0,0,[]),
(d 15 (.nilc (t 14)),1,[]),
(q 16 15 0,2,[]),
(d 17 (.load (t 16) 3 true),3,[]),
(m 18 1,4,[]),
(m 20 0,6,[]),
(d 21 (.nilc (t 20)),7,[]),
(q 22 21 0,8,[]),
(d 23 (.load (t 22) 3 true),9,[]),
(m 24 1,10,[]),
(k 19 104 [t 17,t 18],5,[8]),
(k 25 98 [t 23,t 24],11,[]),
(m 8 19,12,[]),
(m 9 25,13,[])])
(.seq (.seq (.reg [m 26 9,
b 27 .geq (t 26) (i 0)])
(.cond (t 27)
(.seq (.draw [(d 29 (.load (t 5) 4 true),0,[]),
(m 30 0,1,[]),
(d 31 (.nilc (t 30)),2,[]),
(q 32 31 0,3,[]),
(q 33 32 1,4,[]),
(l 34 33,5,[]),
(m 35 9,6,[]),
(d 36 (.idxS (t 34) (t 35) 2),7,[]),
(q 37 36 1,8,[]),
(l 38 37,9,[]),
(k 39 99 [t 29,t 38],10,[]),
(m 28 39,11,[]),
(d 40 (.ext (t 28) 0),12,[]),
(d 41 (.ext (t 28) 1),13,[]),
(m 10 40,14,[]),
(m 11 41,15,[])])
(.seq (.seq (.reg [m 42 11,
b 43 .neq (t 42) (i 0)])
(.cond (t 43)
(.seq (.reg [d 44 (.bld [i0,i0,(.bool false),w0] []),
m 45 11,
⟨none,none,.store (t 6) (t 44) 4⟩,
m 7 45])
.ret)
.skip))
(.seq (.reg [m 46 0,
d 47 (.nilc (t 46)),
q 48 47 5,
l 49 48,
m 50 9,
d 51 (.idxS (t 49) (t 50) 1),
l 52 51,
m 53 10,
d 54 (.idxS (t 52) (t 53) 1),
l 55 54,
k 56 113 [t 55],
⟨none,none,.store (t 6) (t 56) 4⟩,
d 7 (.mv (i 0))])
.ret)))
.skip))
(.seq (.seq (.reg [m 57 8,
b 58 .lss (t 57) (i 0),
m 59 58,
⟨some 60,some (59,false),.mv (t 0)⟩,
⟨some 61,some (59,false),.nilc (t 60)⟩,
⟨some 62,some (59,false),.fad (t 61) 0⟩,
⟨some 63,some (59,false),.fad (t 62) 0⟩,
⟨some 64,some (59,false),.load (t 63) 1 false⟩,
⟨some 65,some (59,false),.mv (t 8)⟩,
⟨some 66,some (59,false),.idxS (t 64) (t 65) 4⟩,
⟨some 67,some (59,false),.fad (t 66) 3⟩,
⟨some 68,some (59,false),.load (t 67) 1 false⟩,
⟨some 69,some (59,false),.bin .eql .plain (t 68) (i 0)⟩,
d 70 (.pick (t 59) (.cst (.bool true)) (t 69))])
(.cond (t 70)
(.seq (.reg [d 71 (.bld [i0,i0,(.bool false),w0] []),
⟨none,none,.store (t 6) (t 71) 4⟩,
d 7 (.mv (i 4))])
.ret)
.skip))
(.seq (.draw [(d 73 (.load (t 5) 4 true),0,[]),
(m 74 0,1,[]),
(d 75 (.nilc (t 74)),2,[]),
(q 76 75 0,3,[]),
(q 77 76 0,4,[]),
(l 78 77,5,[]),
(m 79 8,6,[]),
(d 80 (.idxS (t 78) (t 79) 4),7,[]),
(q 81 80 3,8,[]),
(l 82 81,9,[]),
(k 83 99 [t 73,t 82],10,[]),
(m 72 83,11,[]),
(d 84 (.ext (t 72) 0),12,[]),
(d 85 (.ext (t 72) 1),13,[]),
(m 12 84,14,[]),
(m 13 85,15,[])])
(.seq (.reg [m 86 0,
d 87 (.nilc (t 86)),
q 88 87 0,
q 89 88 0,
l 90 89,
m 91 8,
d 92 (.idxS (t 90) (t 91) 4),
q 93 92 2,
l 94 93,
k 95 113 [t 94],
m 96 13,
⟨none,none,.store (t 6) (t 95) 4⟩,
m 7 96])
.ret)))))⟩
theorem tr111:trF Tryd.prog (h [] [] [] [(1,([0,1,3,7,0,31,0,64,192,448,0,2047,4095,8191],[(0,[]),(1,[]),(2,[]),(3,[]),(4,[]),(6,[]),(7,[]),(8,[]),(9,[]),(10,[]),(5,[8]),(11,[]),(12,[]),(13,[])])),(3,([0,0,2,6,14,30,0,126,254,510,1023,2047,4095,4095,8191,32767],[(0,[]),(1,[]),(2,[]),(3,[]),(4,[]),(5,[]),(6,[]),(7,[]),(8,[]),(9,[]),(10,[]),(11,[]),(12,[]),(13,[]),(14,[]),(15,[])])),(9,([0,0,2,6,14,30,0,126,254,510,1023,2047,4095,4095,8191,32767],[(0,[]),(1,[]),(2,[]),(3,[]),(4,[]),(5,[]),(6,[]),(7,[]),(8,[]),(9,[]),(10,[]),(11,[]),(12,[]),(13,[]),(14,[]),(15,[])]))] false) Tryd.f111=some ir111:=by kernel_rfl
def ir112:IFn:=⟨98,[.cell 6 4 true false,.tmp 7 false],
.seq (.reg [d 4 (.box (t 1) false),
d 5 (.box (t 2) false),
d 6 (.allocz [i0,i0,(.bool false),w0] false),
d 7 (.mv (i 0))])
(.seq (.reg [m 10 0,
b 11 .eql (t 10) (i 6),
m 12 11,
⟨some 13,some (12,false),.mv (t 0)⟩,
⟨some 14,some (12,false),.bin .eql .plain (t 13) (i 7)⟩,
d 15 (.pick (t 12) (.cst (.bool true)) (t 14)),
m 8 15])
(.seq (.seq (.reg [m 16 8,
q 17 4 0,
l 18 17,
b 19 .eql (t 18) (i 2),
d 20 (.bin .neq .bool (t 16) (t 19)),
m 21 20,
⟨some 22,some (21,false),.mv (t 8)⟩,
⟨some 23,some (21,false),.fad (t 5) 0⟩,
⟨some 24,some (21,false),.load (t 23) 1 false⟩,
⟨some 25,some (21,false),.bin .eql .plain (t 24) (i 2)⟩,
⟨some 26,some (21,false),.bin .neq .bool (t 22) (t 25)⟩,
d 27 (.pick (t 21) (.cst (.bool true)) (t 26))])
(.cond (t 27)
(.seq (.reg [d 28 (.bld [i0,i0,(.bool false),w0] []),
⟨none,none,.store (t 6) (t 28) 4⟩,
d 7 (.mv (i 5))])
.ret)
.skip))
(.seq (.reg [q 29 4 2,
l 30 29,
m 31 30,
⟨some 32,some (31,true),.fad (t 5) 2⟩,
⟨some 33,some (31,true),.load (t 32) 1 false⟩,
d 34 (.pick (t 31) (t 33) (.cst (.bool false))),
d 35 (.bld [i0,i0,(.bool false),w0] [(0,1,(i 1)),(2,1,(t 34))]),
d 9 (.allocz [i0,i0,(.bool false),w0] false),
⟨none,none,.store (t 9) (t 35) 4⟩])
(.seq (.seq (.reg [m 36 0])
(.block 0
(.seq (.reg [b 39 .eql (t 36) (i 1),
m 38 39])
(.cond (t 38)
(.reg [q 40 4 1,
l 41 40,
q 42 5 1,
l 43 42,
d 44 (.max [t 41,t 43]),
b 45 .add (t 44) (i 1),
q 46 9 1,
⟨none,none,.store (t 46) (t 45) 1⟩])
(.seq (.reg [b 48 .eql (t 36) (i 2),
m 47 48])
(.cond (t 47)
(.reg [q 49 4 1,
l 50 49,
q 51 9 1,
⟨none,none,.store (t 51) (t 50) 1⟩])
(.seq (.reg [b 53 .eql (t 36) (i 3),
m 52 53])
(.cond (t 52)
(.reg [q 54 4 1,
l 55 54,
q 56 5 1,
l 57 56,
b 58 .add (t 55) (t 57),
q 59 9 1,
⟨none,none,.store (t 59) (t 58) 1⟩])
(.seq (.reg [d 37 (.bld [i0,i0,(.bool false),w0] [(0,1,(i 2))]),
⟨none,none,.store (t 6) (t 37) 4⟩,
d 7 (.mv (i 0))])
.ret)))))))))
(.seq (.seq (.reg [q 60 9 2,
l 61 60,
m 62 61,
⟨some 63,some (62,true),.fad (t 9) 1⟩,
⟨some 64,some (62,true),.load (t 63) 1 false⟩,
⟨some 65,some (62,true),.bin .leq .plain (t 64) (i 60)⟩,
d 66 (.pick (t 62) (t 65) (.cst (.bool false)))])
(.cond (t 66)
(.block 1
(.seq (.reg [m 68 0,
b 69 .eql (t 68) (i 1),
m 67 69])
(.cond (t 67)
(.reg [q 70 4 3,
l 71 70,
q 72 5 3,
l 73 72,
b 74 .add (t 71) (t 73),
q 75 9 3,
⟨none,none,.store (t 75) (t 74) 1⟩])
(.seq (.reg [m 77 0,
b 78 .eql (t 77) (i 3),
m 76 78])
(.cond (t 76)
(.reg [q 79 4 3,
l 80 79,
q 81 5 3,
l 82 81,
b 83 .mul (t 80) (t 82),
q 84 9 3,
⟨none,none,.store (t 84) (t 83) 1⟩])
(.seq (.reg [q 86 5 3,
l 87 86,
q 88 4 3,
l 89 88,
b 90 .leq (t 87) (t 89),
m 85 90])
(.cond (t 85)
(.reg [q 91 4 3,
l 92 91,
q 93 5 3,
l 94 93,
b 95 .sub (t 92) (t 94),
q 96 9 3,
⟨none,none,.store (t 96) (t 95) 1⟩])
.skip)))))))
.skip))
(.seq (.reg [d 97 (.load (t 9) 4 true),
⟨none,none,.store (t 6) (t 97) 4⟩,
d 7 (.mv (i 0))])
.ret))))))⟩
theorem tr112:trF Tryd.prog h0 Tryd.f112=some ir112:=by kernel_rfl
def ir113:IFn:=⟨5,[.cell 2 4 true false],
.seq (.reg [d 2 (.allocz [i0,i0,(.bool false),w0] false)])
(.seq (.reg [m 3 0,
d 4 (.bld [i0,i0,(.bool false),w0] [(0,1,(i 1)),(1,1,(t 3))]),
⟨none,none,.store (t 2) (t 4) 4⟩])
.ret)⟩
theorem tr113:trF Tryd.prog h0 Tryd.f113=some ir113:=by kernel_rfl
end Go.Ab.YtljoifdccjcidaaDoor
