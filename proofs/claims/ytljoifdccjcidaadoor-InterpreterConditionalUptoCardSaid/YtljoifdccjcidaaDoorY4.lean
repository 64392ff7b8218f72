/- Part of a proof:  -/
import Derived.Test.YtljoifdccjcidaaDoorY3
import Derived.Test.YtljoifdccjcidaaDoorProg
import Derived.KernelRfl
set_option maxRecDepth 100000
namespace Go.Ab.YtljoifdccjcidaaDoor
def globs:List (Nat × List V):=[(0,[.int .i64 2,.int .i64 0,.bool false,.int .u64 0])]
def bytes0:ByteArray:=⟨#[0,1,2,2,3,3,3,3,4,4,4,4,4,4,4,4,5,5,5,5,5,5,5,5,5,5,5,5,5,5,5,5,6,6,6,6,6,6,6,6,6,6,6,6,6,6,6,6,6,6,6,6,6,6,6,6,6,6,6,6,6,6,6,6,7,7,7,7,7,7,7,7,7,7,7,7,7,7,7,7,7,7,7,7,7,7,7,7,7,7,7,7,7,7,7,7,7,7,7,7,7,7,7,7,7,7,7,7,7,7,7,7,7,7,7,7,7,7,7,7,7,7,7,7,7,7,7,7,8,8,8,8,8,8,8,8,8,8,8,8,8,8,8,8,8,8,8,8,8,8,8,8,8,8,8,8,8,8,8,8,8,8,8,8,8,8,8,8,8,8,8,8,8,8,8,8,8,8,8,8,8,8,8,8,8,8,8,8,8,8,8,8,8,8,8,8,8,8,8,8,8,8,8,8,8,8,8,8,8,8,8,8,8,8,8,8,8,8,8,8,8,8,8,8,8,8,8,8,8,8,8,8,8,8,8,8,8,8,8,8,8,8,8,8,8,8,8,8,8,8,8,8,8,8,8,8]⟩
def ir4:IFn:=⟨107,[.tmp 4 false],
.seq (.reg [⟨some 4,none,.mv (.cst (.bool false))⟩])
(.seq (.seq (.reg [⟨some 16,none,.call 11 []⟩,
⟨some 17,none,.un .not (.tmp 16)⟩])
(.cond (.tmp 17)
(.seq (.reg [⟨some 4,none,.mv (.cst (.bool false))⟩])
(.ret))
(.skip)))
(.seq (.reg [⟨some 18,none,.call 17 [(.cst (.str ⟨#[97]⟩))]⟩,
⟨some 19,none,.call 17 [(.cst (.str ⟨#[98]⟩))]⟩,
⟨some 5,none,.allocz [(.int .i64 0),(.int .i64 0),(.int .u64 0),(.str ⟨#[]⟩),(.vec [] .full)] false⟩,
⟨some 6,none,.allocz [(.int .i64 0),(.int .i64 0),(.int .u64 0),(.str ⟨#[]⟩),(.vec [] .full)] false⟩,
⟨none,none,.store (.tmp 5) (.tmp 18) 5⟩,
⟨none,none,.store (.tmp 6) (.tmp 19) 5⟩])
(.seq (.reg [⟨some 20,none,.load (.tmp 5) 5 true⟩,
⟨some 21,none,.load (.tmp 6) 5 true⟩,
⟨some 22,none,.call 18 [(.cst (.int .i64 4)),(.tmp 20),(.tmp 21)]⟩,
⟨some 23,none,.bsl 1 5 true [(.int .i64 0),(.int .i64 0),(.int .u64 0),(.str ⟨#[]⟩),(.vec [] .any)] [(0,5,(.tmp 22))]⟩,
⟨some 24,none,.bld [(.int .i64 0),(.int .i64 0),(.int .u64 0),(.str ⟨#[]⟩),(.vec [] .any)] [(0,1,(.cst (.int .i64 5))),(4,1,(.tmp 23))]⟩,
⟨some 7,none,.allocz [(.int .i64 0),(.int .i64 0),(.int .u64 0),(.str ⟨#[]⟩),(.vec [] .full)] false⟩,
⟨none,none,.store (.tmp 7) (.tmp 24) 5⟩])
(.seq (.draw [(⟨some 26,none,.load (.tmp 5) 5 true⟩,0,[]),
(⟨some 27,none,.load (.tmp 6) 5 true⟩,1,[]),
(⟨some 30,none,.load (.tmp 5) 5 true⟩,4,[]),
(⟨some 31,none,.load (.tmp 6) 5 true⟩,5,[]),
(⟨some 34,none,.load (.tmp 5) 5 true⟩,8,[]),
(⟨some 35,none,.load (.tmp 6) 5 true⟩,9,[]),
(⟨some 38,none,.load (.tmp 5) 5 true⟩,12,[]),
(⟨some 39,none,.load (.tmp 6) 5 true⟩,13,[]),
(⟨some 42,none,.load (.tmp 5) 5 true⟩,16,[]),
(⟨some 43,none,.load (.tmp 6) 5 true⟩,17,[]),
(⟨some 46,none,.load (.tmp 7) 5 true⟩,20,[]),
(⟨some 48,none,.load (.tmp 7) 5 true⟩,22,[]),
(⟨some 49,none,.load (.tmp 5) 5 true⟩,23,[]),
(⟨some 50,none,.load (.tmp 6) 5 true⟩,24,[]),
(⟨some 54,none,.load (.tmp 7) 5 true⟩,28,[]),
(⟨some 55,none,.load (.tmp 5) 5 true⟩,29,[]),
(⟨some 56,none,.load (.tmp 6) 5 true⟩,30,[]),
(⟨some 62,none,.mv (.tmp 0)⟩,36,[]),
(⟨some 63,none,.cvI .u64 (.tmp 62)⟩,37,[]),
(⟨some 64,none,.bsl 1 1 false [(.int .u64 0)] [(0,1,(.tmp 63))]⟩,38,[]),
(⟨some 65,none,.mv (.tmp 1)⟩,39,[]),
(⟨some 66,none,.cvI .u64 (.tmp 65)⟩,40,[]),
(⟨some 67,none,.bsl 1 1 false [(.int .u64 0)] [(0,1,(.tmp 66))]⟩,41,[]),
(⟨some 68,none,.bsl 2 1 false [(.vec [] .any)] [(0,1,(.tmp 64)),(1,1,(.tmp 67))]⟩,42,[]),
(⟨some 28,none,.call 18 [(.cst (.int .i64 1)),(.tmp 26),(.tmp 27)]⟩,2,[2,3,4,5,6,7,8,9,10,11,12,13,14,15,16]),
(⟨some 29,none,.call 20 [(.tmp 28)]⟩,3,[2,3,4,5,6,7,8,9,10,11,12,13,14,15,16]),
(⟨some 32,none,.call 18 [(.cst (.int .i64 2)),(.tmp 30),(.tmp 31)]⟩,6,[4,5,6,7,8,9,10,11,12,13,14,15,16]),
(⟨some 33,none,.call 20 [(.tmp 32)]⟩,7,[4,5,6,7,8,9,10,11,12,13,14,15,16]),
(⟨some 36,none,.call 18 [(.cst (.int .i64 3)),(.tmp 34),(.tmp 35)]⟩,10,[6,7,8,9,10,11,12,13,14,15,16]),
(⟨some 37,none,.call 20 [(.tmp 36)]⟩,11,[6,7,8,9,10,11,12,13,14,15,16]),
(⟨some 40,none,.call 18 [(.cst (.int .i64 4)),(.tmp 38),(.tmp 39)]⟩,14,[8,9,10,11,12,13,14,15,16]),
(⟨some 41,none,.call 20 [(.tmp 40)]⟩,15,[8,9,10,11,12,13,14,15,16]),
(⟨some 44,none,.call 18 [(.cst (.int .i64 5)),(.tmp 42),(.tmp 43)]⟩,18,[10,11,12,13,14,15,16]),
(⟨some 45,none,.call 20 [(.tmp 44)]⟩,19,[10,11,12,13,14,15,16]),
(⟨some 47,none,.call 20 [(.tmp 46)]⟩,21,[11,12,13,14,15,16]),
(⟨some 51,none,.call 18 [(.cst (.int .i64 5)),(.tmp 49),(.tmp 50)]⟩,25,[11,14,15,16]),
(⟨some 52,none,.call 18 [(.cst (.int .i64 6)),(.tmp 48),(.tmp 51)]⟩,26,[14,15,16]),
(⟨some 53,none,.call 20 [(.tmp 52)]⟩,27,[14,15,16]),
(⟨some 57,none,.call 18 [(.cst (.int .i64 5)),(.tmp 55),(.tmp 56)]⟩,31,[14]),
(⟨some 58,none,.call 18 [(.cst (.int .i64 7)),(.tmp 54),(.tmp 57)]⟩,32,[]),
(⟨some 59,none,.call 20 [(.tmp 58)]⟩,33,[]),
(⟨some 60,none,.bsl 8 5 true [(.int .i64 0),(.str ⟨#[]⟩),(.vec [] .any),(.vec [] .any),(.vec [] .any)] [(0,5,(.tmp 29)),(5,5,(.tmp 33)),(10,5,(.tmp 37)),(15,5,(.tmp 41)),(20,5,(.tmp 45)),(25,5,(.tmp 47)),(30,5,(.tmp 53)),(35,5,(.tmp 59))]⟩,34,[]),
(⟨some 61,none,.call 19 [(.cst (.int .i64 16)),(.tmp 60)]⟩,35,[]),
(⟨some 69,none,.call 13 [(.tmp 61),(.tmp 68)]⟩,43,[]),
(⟨some 25,none,.mv (.tmp 69)⟩,44,[]),
(⟨some 70,none,.ext (.tmp 25) 0⟩,45,[]),
(⟨some 71,none,.ext (.tmp 25) 1⟩,46,[]),
(⟨some 8,none,.mv (.tmp 70)⟩,47,[]),
(⟨some 9,none,.mv (.tmp 71)⟩,48,[])])
(.seq (.reg [⟨some 72,none,.mv (.tmp 0)⟩,
⟨some 73,none,.cvI .u64 (.tmp 72)⟩,
⟨some 74,none,.mv (.tmp 1)⟩,
⟨some 75,none,.cvI .u64 (.tmp 74)⟩,
⟨some 10,none,.mv (.tmp 73)⟩,
⟨some 11,none,.mv (.tmp 75)⟩])
(.seq (.reg [⟨some 12,none,.mv (.cst (.int .u64 0))⟩,
⟨some 13,none,.mv (.cst (.int .u64 0))⟩,
⟨some 14,none,.mv (.cst (.int .u64 0))⟩,
⟨some 15,none,.mv (.cst (.int .u64 1))⟩])
(.seq (.seq (.reg [⟨some 76,none,.mv (.tmp 10)⟩,
⟨some 77,none,.mv (.tmp 11)⟩,
⟨some 78,none,.bin .gtr .plain (.tmp 76) (.tmp 77)⟩])
(.cond (.tmp 78)
(.reg [⟨some 79,none,.mv (.tmp 10)⟩,
⟨some 80,none,.mv (.tmp 11)⟩,
⟨some 81,none,.bin .sub .plain (.tmp 79) (.tmp 80)⟩,
⟨some 12,none,.mv (.tmp 81)⟩])
(.skip)))
(.seq (.seq (.reg [⟨some 82,none,.mv (.tmp 10)⟩,
⟨some 83,none,.mv (.tmp 11)⟩,
⟨some 84,none,.bin .lss .plain (.tmp 82) (.tmp 83)⟩])
(.cond (.tmp 84)
(.reg [⟨some 13,none,.mv (.cst (.int .u64 1))⟩,
⟨some 15,none,.mv (.cst (.int .u64 0))⟩])
(.skip)))
(.seq (.seq (.reg [⟨some 85,none,.mv (.tmp 10)⟩,
⟨some 86,none,.mv (.tmp 11)⟩,
⟨some 87,none,.bin .eql .plain (.tmp 85) (.tmp 86)⟩])
(.cond (.tmp 87)
(.reg [⟨some 14,none,.mv (.cst (.int .u64 1))⟩])
(.skip)))
(.seq (.reg [⟨some 88,none,.mv (.tmp 9)⟩,
⟨some 89,none,.bin .eql .plain (.tmp 88) (.cst (.int .i64 0))⟩,
⟨some 90,none,.mv (.tmp 89)⟩,
⟨some 91,some (90,true),.mv (.tmp 8)⟩,
⟨some 92,some (90,true),.mv (.tmp 10)⟩,
⟨some 93,some (90,true),.mv (.tmp 11)⟩,
⟨some 94,some (90,true),.bin .add .plain (.tmp 92) (.tmp 93)⟩,
⟨some 95,some (90,true),.mv (.tmp 12)⟩,
⟨some 96,some (90,true),.mv (.tmp 10)⟩,
⟨some 97,some (90,true),.mv (.tmp 11)⟩,
⟨some 98,some (90,true),.bin .mul .plain (.tmp 96) (.tmp 97)⟩,
⟨some 99,some (90,true),.mv (.tmp 13)⟩,
⟨some 100,some (90,true),.mv (.tmp 14)⟩,
⟨some 101,some (90,true),.mv (.tmp 15)⟩,
⟨some 102,some (90,true),.mv (.tmp 14)⟩,
⟨some 103,some (90,true),.mv (.tmp 15)⟩,
⟨some 104,some (90,true),.bsl 8 1 false [(.int .u64 0)] [(0,1,(.tmp 94)),(1,1,(.tmp 95)),(2,1,(.tmp 98)),(3,1,(.tmp 99)),(4,1,(.tmp 100)),(5,1,(.tmp 101)),(6,1,(.tmp 102)),(7,1,(.tmp 103))]⟩,
⟨some 105,some (90,true),.call 15 [(.tmp 91),(.tmp 104)]⟩,
⟨some 106,none,.pick (.tmp 90) (.tmp 105) (.cst (.bool false))⟩,
⟨some 4,none,.mv (.tmp 106)⟩])
(.ret)))))))))))⟩
theorem tr4:trF Go.Proofs.Tryd.prog { obj:=[],bare:=[],loops:=[],draws:=[(5,([0,0,3,7,0,0,63,127,0,0,1023,2047,0,0,16383,32767,0,0,262143,524287,0,2097151,0,0,0,29360127,67108863,134217727,0,0,0,1879048191,4294967295,8589934591,17179869183,34359738367,0,68719476736,206158430208,0,549755813888,1649267441664,4329327034368,8796093022207,17592186044415,35184372088831,35184372088831,70368744177663,281474976710655],[(0,[]),(1,[]),(4,[]),(5,[]),(8,[]),(9,[]),(12,[]),(13,[]),(16,[]),(17,[]),(20,[]),(22,[]),(23,[]),(24,[]),(28,[]),(29,[]),(30,[]),(36,[]),(37,[]),(38,[]),(39,[]),(40,[]),(41,[]),(42,[]),(2,[2,3,4,5,6,7,8,9,10,11,12,13,14,15,16]),(3,[2,3,4,5,6,7,8,9,10,11,12,13,14,15,16]),(6,[4,5,6,7,8,9,10,11,12,13,14,15,16]),(7,[4,5,6,7,8,9,10,11,12,13,14,15,16]),(10,[6,7,8,9,10,11,12,13,14,15,16]),(11,[6,7,8,9,10,11,12,13,14,15,16]),(14,[8,9,10,11,12,13,14,15,16]),(15,[8,9,10,11,12,13,14,15,16]),(18,[10,11,12,13,14,15,16]),(19,[10,11,12,13,14,15,16]),(21,[11,12,13,14,15,16]),(25,[11,14,15,16]),(26,[14,15,16]),(27,[14,15,16]),(31,[14]),(32,[]),(33,[]),(34,[]),(35,[]),(43,[]),(44,[]),(45,[]),(46,[]),(47,[]),(48,[])]))],glob:=globs,fresh:=false } Go.Proofs.Tryd.f4=some ir4:=by kernel_rfl
def ir5:IFn:=⟨73,[.tmp 6 false],
.seq (.reg [⟨some 3,none,.box (.tmp 0) false⟩,
⟨some 6,none,.mv (.cst (.bool false))⟩])
(.seq (.seq (.reg [⟨some 12,none,.call 11 []⟩,
⟨some 13,none,.un .not (.tmp 12)⟩])
(.cond (.tmp 13)
(.seq (.reg [⟨some 6,none,.mv (.cst (.bool false))⟩])
(.ret))
(.skip)))
(.seq (.seq (.reg [⟨some 14,none,.load (.tmp 3) 3 true⟩,
⟨some 15,none,.mv (.tmp 1)⟩,
⟨some 16,none,.call 12 [(.tmp 14),(.tmp 15),(.cst (.int .i64 150))]⟩,
⟨some 17,none,.un .not (.tmp 16)⟩])
(.cond (.tmp 17)
(.seq (.reg [⟨some 6,none,.mv (.cst (.bool true))⟩])
(.ret))
(.skip)))
(.seq (.reg [⟨some 18,none,.mv (.tmp 2)⟩,
⟨some 19,none,.bin .shr .plain (.tmp 18) (.cst (.int .u64 4))⟩,
⟨some 2,none,.mv (.tmp 19)⟩])
(.seq (.reg [⟨some 20,none,.load (.tmp 3) 3 true⟩,
⟨some 7,none,.allocz [(.vec [] .full),(.vec [] .full),(.vec [] .full)] false⟩,
⟨none,none,.store (.tmp 7) (.tmp 20) 3⟩])
(.seq (.reg [⟨some 21,none,.bsl 0 5 true [(.int .i64 0),(.str ⟨#[]⟩),(.vec [] .any),(.vec [] .any),(.vec [] .any)] []⟩,
⟨some 22,none,.fad (.tmp 3) 2⟩,
⟨some 23,none,.load (.tmp 22) 1 false⟩,
⟨some 24,none,.app (.tmp 21) (.tmp 23) 5 96 true false⟩,
⟨some 25,none,.mv (.tmp 2)⟩,
⟨some 26,none,.call 21 [(.tmp 25)]⟩,
⟨some 27,none,.bsl 1 5 true [(.int .i64 0),(.int .i64 0),(.int .u64 0),(.str ⟨#[]⟩),(.vec [] .any)] [(0,5,(.tmp 26))]⟩,
⟨some 28,none,.bld [(.int .i64 0),(.str ⟨#[]⟩),(.vec [] .any),(.vec [] .any),(.vec [] .any)] [(0,1,(.cst (.int .i64 1))),(1,1,(.cst (.str ⟨#[98,101,104,105,110,100]⟩))),(2,1,(.tmp 27))]⟩,
⟨some 29,none,.call 17 [(.cst (.str ⟨#[98,101,104,105,110,100]⟩))]⟩,
⟨some 30,none,.call 20 [(.tmp 29)]⟩,
⟨some 31,none,.bsl 2 5 true [(.int .i64 0),(.str ⟨#[]⟩),(.vec [] .any),(.vec [] .any),(.vec [] .any)] [(0,5,(.tmp 28)),(5,5,(.tmp 30))]⟩,
⟨some 32,none,.app (.tmp 24) (.tmp 31) 5 96 true false⟩,
⟨some 33,none,.fad (.tmp 7) 2⟩,
⟨none,none,.store (.tmp 33) (.tmp 32) 1⟩])
(.seq (.seq (.reg [⟨some 34,none,.load (.tmp 7) 3 true⟩,
⟨some 35,none,.mv (.tmp 1)⟩,
⟨some 36,none,.call 12 [(.tmp 34),(.tmp 35),(.cst (.int .i64 160))]⟩,
⟨some 37,none,.un .not (.tmp 36)⟩])
(.cond (.tmp 37)
(.seq (.reg [⟨some 6,none,.mv (.cst (.bool true))⟩])
(.ret))
(.skip)))
(.seq (.reg [⟨some 39,none,.load (.tmp 3) 3 true⟩,
⟨some 40,none,.mv (.tmp 1)⟩,
⟨some 41,none,.call 13 [(.tmp 39),(.tmp 40)]⟩,
⟨some 38,none,.mv (.tmp 41)⟩,
⟨some 42,none,.ext (.tmp 38) 0⟩,
⟨some 43,none,.ext (.tmp 38) 1⟩,
⟨some 8,none,.mv (.tmp 42)⟩,
⟨some 9,none,.mv (.tmp 43)⟩])
(.seq (.reg [⟨some 45,none,.load (.tmp 7) 3 true⟩,
⟨some 46,none,.mv (.tmp 1)⟩,
⟨some 47,none,.call 13 [(.tmp 45),(.tmp 46)]⟩,
⟨some 44,none,.mv (.tmp 47)⟩,
⟨some 48,none,.ext (.tmp 44) 0⟩,
⟨some 49,none,.ext (.tmp 44) 1⟩,
⟨some 10,none,.mv (.tmp 48)⟩,
⟨some 11,none,.mv (.tmp 49)⟩])
(.seq (.seq (.reg [⟨some 50,none,.mv (.tmp 11)⟩,
⟨some 51,none,.bin .eql .plain (.tmp 50) (.cst (.int .i64 4))⟩,
⟨some 52,none,.mv (.tmp 51)⟩,
⟨some 53,some (52,false),.mv (.tmp 11)⟩,
⟨some 54,some (52,false),.bin .eql .plain (.tmp 53) (.cst (.int .i64 2))⟩,
⟨some 55,none,.pick (.tmp 52) (.cst (.bool true)) (.tmp 54)⟩])
(.cond (.tmp 55)
(.seq (.reg [⟨some 6,none,.mv (.cst (.bool true))⟩])
(.ret))
(.skip)))
(.seq (.seq (.reg [⟨some 56,none,.mv (.tmp 9)⟩,
⟨some 57,none,.bin .neq .plain (.tmp 56) (.cst (.int .i64 0))⟩])
(.cond (.tmp 57)
(.seq (.reg [⟨some 58,none,.mv (.tmp 11)⟩,
⟨some 59,none,.mv (.tmp 9)⟩,
⟨some 60,none,.bin .eql .plain (.tmp 58) (.tmp 59)⟩,
⟨some 6,none,.mv (.tmp 60)⟩])
(.ret))
(.skip)))
(.seq (.reg [⟨some 61,none,.mv (.tmp 11)⟩,
⟨some 62,none,.bin .eql .plain (.tmp 61) (.cst (.int .i64 0))⟩,
⟨some 63,none,.mv (.tmp 62)⟩,
⟨some 64,some (63,true),.mv (.tmp 10)⟩,
⟨some 65,some (63,true),.bsl 0 1 false [(.int .u64 0)] []⟩,
⟨some 66,some (63,true),.mv (.tmp 8)⟩,
⟨some 67,some (63,true),.app (.tmp 65) (.tmp 66) 1 8 false false⟩,
⟨some 68,some (63,true),.mv (.tmp 2)⟩,
⟨some 69,some (63,true),.bsl 1 1 false [(.int .u64 0)] [(0,1,(.tmp 68))]⟩,
⟨some 70,some (63,true),.app (.tmp 67) (.tmp 69) 1 8 false false⟩,
⟨some 71,some (63,true),.call 15 [(.tmp 64),(.tmp 70)]⟩,
⟨some 72,none,.pick (.tmp 63) (.tmp 71) (.cst (.bool false))⟩,
⟨some 6,none,.mv (.tmp 72)⟩])
(.ret))))))))))))⟩
theorem tr5:trF Go.Proofs.Tryd.prog { obj:=[],bare:=[],loops:=[],draws:=[],glob:=globs,fresh:=false } Go.Proofs.Tryd.f5=some ir5:=by kernel_rfl
def ir6:IFn:=⟨102,[.tmp 6 false],
.seq (.reg [⟨some 3,none,.box (.tmp 0) false⟩,
⟨some 6,none,.mv (.cst (.bool false))⟩])
(.seq (.seq (.reg [⟨some 14,none,.call 11 []⟩,
⟨some 15,none,.un .not (.tmp 14)⟩])
(.cond (.tmp 15)
(.seq (.reg [⟨some 6,none,.mv (.cst (.bool false))⟩])
(.ret))
(.skip)))
(.seq (.seq (.reg [⟨some 16,none,.load (.tmp 3) 3 true⟩,
⟨some 17,none,.mv (.tmp 1)⟩,
⟨some 18,none,.call 12 [(.tmp 16),(.tmp 17),(.cst (.int .i64 150))]⟩,
⟨some 19,none,.un .not (.tmp 18)⟩,
⟨some 20,none,.mv (.tmp 19)⟩,
⟨some 21,some (20,false),.mv (.tmp 1)⟩,
⟨some 22,some (20,false),.len .i (.tmp 21)⟩,
⟨some 23,some (20,false),.bin .geq .plain (.tmp 22) (.cst (.int .i64 13))⟩,
⟨some 24,none,.pick (.tmp 20) (.cst (.bool true)) (.tmp 23)⟩])
(.cond (.tmp 24)
(.seq (.reg [⟨some 6,none,.mv (.cst (.bool true))⟩])
(.ret))
(.skip)))
(.seq (.reg [⟨some 26,none,.load (.tmp 3) 3 true⟩,
⟨some 27,none,.mv (.tmp 1)⟩,
⟨some 28,none,.call 13 [(.tmp 26),(.tmp 27)]⟩,
⟨some 25,none,.mv (.tmp 28)⟩,
⟨some 29,none,.ext (.tmp 25) 0⟩,
⟨some 30,none,.ext (.tmp 25) 1⟩,
⟨some 7,none,.mv (.tmp 29)⟩,
⟨some 8,none,.mv (.tmp 30)⟩])
(.seq (.draw [(⟨some 32,none,.load (.tmp 3) 3 true⟩,0,[]),
(⟨some 33,none,.bsl 0 1 false [(.vec [] .any)] []⟩,1,[]),
(⟨some 34,none,.mv (.tmp 1)⟩,2,[]),
(⟨some 36,none,.bsl 1 1 false [(.vec [] .any)] [(0,1,(.cst (.vec [] .full)))]⟩,4,[]),
(⟨some 35,none,.app (.tmp 33) (.tmp 34) 1 24 false false⟩,3,[0]),
(⟨some 37,none,.app (.tmp 35) (.tmp 36) 1 24 false false⟩,5,[0]),
(⟨some 38,none,.call 13 [(.tmp 32),(.tmp 37)]⟩,6,[]),
(⟨some 31,none,.mv (.tmp 38)⟩,7,[]),
(⟨some 39,none,.ext (.tmp 31) 0⟩,8,[]),
(⟨some 40,none,.ext (.tmp 31) 1⟩,9,[]),
(⟨some 9,none,.mv (.tmp 39)⟩,10,[]),
(⟨some 10,none,.mv (.tmp 40)⟩,11,[])])
(.seq (.reg [⟨some 41,none,.load (.tmp 3) 3 true⟩,
⟨some 11,none,.allocz [(.vec [] .full),(.vec [] .full),(.vec [] .full)] false⟩,
⟨none,none,.store (.tmp 11) (.tmp 41) 3⟩])
(.seq (.reg [⟨some 42,none,.bsl 0 4 true [(.str ⟨#[]⟩),(.int .i64 0),(.int .i64 0),(.int .i64 0)] []⟩,
⟨some 43,none,.fad (.tmp 3) 0⟩,
⟨some 44,none,.load (.tmp 43) 1 false⟩,
⟨some 45,none,.app (.tmp 42) (.tmp 44) 4 40 true false⟩,
⟨some 46,none,.mv (.tmp 1)⟩,
⟨some 47,none,.len .i (.tmp 46)⟩,
⟨some 48,none,.bin .add .plain (.tmp 47) (.cst (.int .i64 1))⟩,
⟨some 49,none,.bld [(.str ⟨#[]⟩),(.int .i64 0),(.int .i64 0),(.int .i64 0)] [(0,1,(.cst (.str ⟨#[117,110,110,97,109,101,100]⟩))),(1,1,(.tmp 48)),(2,1,(.cst (.int .i64 16)))]⟩,
⟨some 50,none,.bsl 1 4 true [(.str ⟨#[]⟩),(.int .i64 0),(.int .i64 0),(.int .i64 0)] [(0,4,(.tmp 49))]⟩,
⟨some 51,none,.app (.tmp 45) (.tmp 50) 4 40 true false⟩,
⟨some 52,none,.fad (.tmp 11) 0⟩,
⟨none,none,.store (.tmp 52) (.tmp 51) 1⟩])
(.seq (.seq (.reg [⟨some 53,none,.load (.tmp 11) 3 true⟩,
⟨some 54,none,.mv (.tmp 1)⟩,
⟨some 55,none,.call 12 [(.tmp 53),(.tmp 54),(.cst (.int .i64 160))]⟩,
⟨some 56,none,.un .not (.tmp 55)⟩])
(.cond (.tmp 56)
(.seq (.reg [⟨some 6,none,.mv (.cst (.bool true))⟩])
(.ret))
(.skip)))
(.seq (.draw [(⟨some 58,none,.load (.tmp 11) 3 true⟩,0,[]),
(⟨some 59,none,.bsl 0 1 false [(.vec [] .any)] []⟩,1,[]),
(⟨some 60,none,.mv (.tmp 1)⟩,2,[]),
(⟨some 62,none,.mv (.tmp 2)⟩,4,[]),
(⟨some 63,none,.cvI .u64 (.tmp 62)⟩,5,[]),
(⟨some 64,none,.bsl 1 1 false [(.int .u64 0)] [(0,1,(.tmp 63))]⟩,6,[]),
(⟨some 65,none,.bsl 1 1 false [(.vec [] .any)] [(0,1,(.tmp 64))]⟩,7,[]),
(⟨some 61,none,.app (.tmp 59) (.tmp 60) 1 24 false false⟩,3,[0]),
(⟨some 66,none,.app (.tmp 61) (.tmp 65) 1 24 false false⟩,8,[0]),
(⟨some 67,none,.call 13 [(.tmp 58),(.tmp 66)]⟩,9,[]),
(⟨some 57,none,.mv (.tmp 67)⟩,10,[]),
(⟨some 68,none,.ext (.tmp 57) 0⟩,11,[]),
(⟨some 69,none,.ext (.tmp 57) 1⟩,12,[]),
(⟨some 12,none,.mv (.tmp 68)⟩,13,[]),
(⟨some 13,none,.mv (.tmp 69)⟩,14,[])])
(.seq (.seq (.reg [⟨some 70,none,.mv (.tmp 13)⟩,
⟨some 71,none,.bin .eql .plain (.tmp 70) (.cst (.int .i64 4))⟩,
⟨some 72,none,.mv (.tmp 71)⟩,
⟨some 73,some (72,false),.mv (.tmp 8)⟩,
⟨some 74,some (72,false),.bin .eql .plain (.tmp 73) (.cst (.int .i64 4))⟩,
⟨some 75,none,.pick (.tmp 72) (.cst (.bool true)) (.tmp 74)⟩])
(.cond (.tmp 75)
(.seq (.reg [⟨some 76,none,.mv (.tmp 8)⟩,
⟨some 77,none,.mv (.tmp 10)⟩,
⟨some 78,none,.bin .eql .plain (.tmp 76) (.tmp 77)⟩,
⟨some 79,none,.mv (.tmp 78)⟩,
⟨some 80,some (79,true),.mv (.tmp 7)⟩,
⟨some 81,some (79,true),.mv (.tmp 9)⟩,
⟨some 82,some (79,true),.call 15 [(.tmp 80),(.tmp 81)]⟩,
⟨some 83,none,.pick (.tmp 79) (.tmp 82) (.cst (.bool false))⟩,
⟨some 6,none,.mv (.tmp 83)⟩])
(.ret))
(.skip)))
(.seq (.reg [⟨some 84,none,.mv (.tmp 8)⟩,
⟨some 85,none,.mv (.tmp 10)⟩,
⟨some 86,none,.bin .eql .plain (.tmp 84) (.tmp 85)⟩,
⟨some 87,none,.mv (.tmp 86)⟩,
⟨some 88,some (87,true),.mv (.tmp 8)⟩,
⟨some 89,some (87,true),.mv (.tmp 13)⟩,
⟨some 90,some (87,true),.bin .eql .plain (.tmp 88) (.tmp 89)⟩,
⟨some 91,none,.pick (.tmp 87) (.tmp 90) (.cst (.bool false))⟩,
⟨some 92,none,.mv (.tmp 91)⟩,
⟨some 93,some (92,true),.mv (.tmp 7)⟩,
⟨some 94,some (92,true),.mv (.tmp 9)⟩,
⟨some 95,some (92,true),.call 15 [(.tmp 93),(.tmp 94)]⟩,
⟨some 96,none,.pick (.tmp 92) (.tmp 95) (.cst (.bool false))⟩,
⟨some 97,none,.mv (.tmp 96)⟩,
⟨some 98,some (97,true),.mv (.tmp 7)⟩,
⟨some 99,some (97,true),.mv (.tmp 12)⟩,
⟨some 100,some (97,true),.call 15 [(.tmp 98),(.tmp 99)]⟩,
⟨some 101,none,.pick (.tmp 97) (.tmp 100) (.cst (.bool false))⟩,
⟨some 6,none,.mv (.tmp 101)⟩])
(.ret)))))))))))⟩
theorem tr6:trF Go.Proofs.Tryd.prog { obj:=[],bare:=[],loops:=[],draws:=[(6,([0,0,0,6,0,30,63,127,255,255,511,2047],[(0,[]),(1,[]),(2,[]),(4,[]),(3,[0]),(5,[0]),(6,[]),(7,[]),(8,[]),(9,[]),(10,[]),(11,[])])),(11,([0,0,0,6,0,16,48,112,254,511,1023,2047,2047,4095,16383],[(0,[]),(1,[]),(2,[]),(4,[]),(5,[]),(6,[]),(7,[]),(3,[0]),(8,[0]),(9,[]),(10,[]),(11,[]),(12,[]),(13,[]),(14,[])]))],glob:=globs,fresh:=false } Go.Proofs.Tryd.f6=some ir6:=by kernel_rfl
def ir7:IFn:=⟨77,[.tmp 6 false],
.seq (.reg [⟨some 6,none,.mv (.cst (.bool false))⟩])
(.seq (.seq (.reg [⟨some 16,none,.call 11 []⟩,
⟨some 17,none,.un .not (.tmp 16)⟩])
(.cond (.tmp 17)
(.seq (.reg [⟨some 6,none,.mv (.cst (.bool false))⟩])
(.ret))
(.skip)))
(.seq (.reg [⟨some 18,none,.mv (.tmp 0)⟩,
⟨some 19,none,.bin .rem .plain (.tmp 18) (.cst (.int .u8 9))⟩,
⟨some 20,none,.cvI .u64 (.tmp 19)⟩,
⟨some 21,none,.mv (.tmp 1)⟩,
⟨some 22,none,.bin .rem .plain (.tmp 21) (.cst (.int .u8 9))⟩,
⟨some 23,none,.cvI .u64 (.tmp 22)⟩,
⟨some 7,none,.mv (.tmp 20)⟩,
⟨some 8,none,.mv (.tmp 23)⟩])
(.seq (.reg [⟨some 24,none,.call 17 [(.cst (.str ⟨#[115]⟩))]⟩,
⟨some 25,none,.call 17 [(.cst (.str ⟨#[97]⟩))]⟩,
⟨some 26,none,.call 17 [(.cst (.str ⟨#[105]⟩))]⟩,
⟨some 27,none,.call 18 [(.cst (.int .i64 3)),(.tmp 25),(.tmp 26)]⟩,
⟨some 28,none,.call 18 [(.cst (.int .i64 1)),(.tmp 24),(.tmp 27)]⟩,
⟨some 29,none,.bsl 1 5 true [(.int .i64 0),(.int .i64 0),(.int .u64 0),(.str ⟨#[]⟩),(.vec [] .any)] [(0,5,(.tmp 28))]⟩,
⟨some 30,none,.bld [(.int .i64 0),(.str ⟨#[]⟩),(.vec [] .any),(.vec [] .any),(.vec [] .any)] [(0,1,(.cst (.int .i64 1))),(1,1,(.cst (.str ⟨#[115]⟩))),(2,1,(.tmp 29))]⟩,
⟨some 9,none,.allocz [(.int .i64 0),(.str ⟨#[]⟩),(.vec [] .full),(.vec [] .full),(.vec [] .full)] false⟩,
⟨none,none,.store (.tmp 9) (.tmp 30) 5⟩])
(.seq (.draw [(⟨some 31,none,.mv (.tmp 7)⟩,0,[]),
(⟨some 33,none,.mv (.tmp 8)⟩,2,[]),
(⟨some 36,none,.load (.tmp 9) 5 true⟩,5,[]),
(⟨some 37,none,.bsl 1 5 true [(.int .i64 0),(.str ⟨#[]⟩),(.vec [] .any),(.vec [] .any),(.vec [] .any)] [(0,5,(.tmp 36))]⟩,6,[]),
(⟨some 10,none,.bare 5⟩,8,[]),
(⟨some 32,none,.call 21 [(.tmp 31)]⟩,1,[2]),
(⟨some 34,none,.call 21 [(.tmp 33)]⟩,3,[2]),
(⟨some 35,none,.bsl 2 5 true [(.int .i64 0),(.int .i64 0),(.int .u64 0),(.str ⟨#[]⟩),(.vec [] .any)] [(0,5,(.tmp 32)),(5,5,(.tmp 34))]⟩,4,[]),
(⟨some 38,none,.bld [(.int .i64 0),(.str ⟨#[]⟩),(.vec [] .any),(.vec [] .any),(.vec [] .any)] [(0,1,(.cst (.int .i64 4))),(1,1,(.cst (.str ⟨#[105]⟩))),(2,1,(.tmp 35)),(3,1,(.tmp 37))]⟩,7,[]),
(⟨none,none,.store (.tmp 10) (.tmp 38) 5⟩,9,[])])
(.seq (.reg [⟨some 39,none,.call 21 [(.cst (.int .u64 0))]⟩,
⟨some 40,none,.bsl 1 5 true [(.int .i64 0),(.int .i64 0),(.int .u64 0),(.str ⟨#[]⟩),(.vec [] .any)] [(0,5,(.tmp 39))]⟩,
⟨some 41,none,.bld [(.int .i64 0),(.str ⟨#[]⟩),(.vec [] .any),(.vec [] .any),(.vec [] .any)] [(0,1,(.cst (.int .i64 1))),(1,1,(.cst (.str ⟨#[115]⟩))),(2,1,(.tmp 40))]⟩,
⟨some 11,none,.allocz [(.int .i64 0),(.str ⟨#[]⟩),(.vec [] .full),(.vec [] .full),(.vec [] .full)] false⟩,
⟨none,none,.store (.tmp 11) (.tmp 41) 5⟩])
(.seq (.draw [(⟨some 43,none,.load (.tmp 11) 5 true⟩,0,[]),
(⟨some 44,none,.load (.tmp 10) 5 true⟩,1,[]),
(⟨some 49,none,.mv (.tmp 2)⟩,6,[]),
(⟨some 50,none,.cvI .u64 (.tmp 49)⟩,7,[]),
(⟨some 51,none,.bsl 1 1 false [(.int .u64 0)] [(0,1,(.tmp 50))]⟩,8,[]),
(⟨some 52,none,.bsl 1 1 false [(.int .u64 0)] [(0,1,(.cst (.int .u64 0)))]⟩,9,[]),
(⟨some 53,none,.bsl 2 1 false [(.vec [] .any)] [(0,1,(.tmp 51)),(1,1,(.tmp 52))]⟩,10,[]),
(⟨some 45,none,.call 17 [(.cst (.str ⟨#[115]⟩))]⟩,2,[0,1]),
(⟨some 46,none,.call 20 [(.tmp 45)]⟩,3,[0,1]),
(⟨some 47,none,.bsl 3 5 true [(.int .i64 0),(.str ⟨#[]⟩),(.vec [] .any),(.vec [] .any),(.vec [] .any)] [(0,5,(.tmp 43)),(5,5,(.tmp 44)),(10,5,(.tmp 46))]⟩,4,[]),
(⟨some 48,none,.call 19 [(.cst (.int .i64 16)),(.tmp 47)]⟩,5,[]),
(⟨some 54,none,.call 13 [(.tmp 48),(.tmp 53)]⟩,11,[]),
(⟨some 42,none,.mv (.tmp 54)⟩,12,[]),
(⟨some 55,none,.ext (.tmp 42) 0⟩,13,[]),
(⟨some 56,none,.ext (.tmp 42) 1⟩,14,[]),
(⟨some 12,none,.mv (.tmp 55)⟩,15,[]),
(⟨some 13,none,.mv (.tmp 56)⟩,16,[])])
(.seq (.reg [⟨some 14,none,.mv (.cst (.int .u64 0))⟩])
(.seq (.seq (.reg [⟨some 57,none,.mv (.tmp 7)⟩,
⟨some 15,none,.mv (.tmp 57)⟩])
(.block 0
(.loop [2,8,12,13,14,15]
(.seq (.seq (.reg [⟨some 58,none,.mv (.tmp 15)⟩,
⟨some 59,none,.mv (.tmp 8)⟩,
⟨some 60,none,.bin .leq .plain (.tmp 58) (.tmp 59)⟩])
(.cond (.tmp 60)
(.skip)
(.brk 0)))
(.seq (.block 1
(.reg [⟨some 63,none,.mv (.tmp 14)⟩,
⟨some 64,none,.mv (.tmp 15)⟩,
⟨some 65,none,.mv (.tmp 2)⟩,
⟨some 66,none,.cvI .u64 (.tmp 65)⟩,
⟨some 67,none,.bin .mul .plain (.tmp 64) (.tmp 66)⟩,
⟨some 68,none,.bin .add .plain (.tmp 63) (.tmp 67)⟩,
⟨some 14,none,.mv (.tmp 68)⟩]))
(.reg [⟨some 61,none,.mv (.tmp 15)⟩,
⟨some 62,none,.bin .add .plain (.tmp 61) (.cst (.int .u64 1))⟩,
⟨some 15,none,.mv (.tmp 62)⟩]))))))
(.seq (.reg [⟨some 69,none,.mv (.tmp 13)⟩,
⟨some 70,none,.bin .eql .plain (.tmp 69) (.cst (.int .i64 0))⟩,
⟨some 71,none,.mv (.tmp 70)⟩,
⟨some 72,some (71,true),.mv (.tmp 12)⟩,
⟨some 73,some (71,true),.mv (.tmp 14)⟩,
⟨some 74,some (71,true),.bsl 1 1 false [(.int .u64 0)] [(0,1,(.tmp 73))]⟩,
⟨some 75,some (71,true),.call 15 [(.tmp 72),(.tmp 74)]⟩,
⟨some 76,none,.pick (.tmp 71) (.tmp 75) (.cst (.bool false))⟩,
⟨some 6,none,.mv (.tmp 76)⟩])
(.ret))))))))))⟩
theorem tr7:trF Go.Proofs.Tryd.prog { obj:=[],bare:=[10],loops:=[[2,8,12,13,14,15]],draws:=[(5,([0,1,0,7,15,0,32,127,0,511],[(0,[]),(2,[]),(5,[]),(6,[]),(8,[]),(1,[2]),(3,[2]),(4,[]),(7,[]),(9,[])])),(7,([0,0,0,4,15,31,0,64,192,0,960,2047,4095,8191,8191,16383,65535],[(0,[]),(1,[]),(6,[]),(7,[]),(8,[]),(9,[]),(10,[]),(2,[0,1]),(3,[0,1]),(4,[]),(5,[]),(11,[]),(12,[]),(13,[]),(14,[]),(15,[]),(16,[])]))],glob:=globs,fresh:=false } Go.Proofs.Tryd.f7=some ir7:=by kernel_rfl
def ir8:IFn:=⟨102,[.tmp 2 false],
.seq (.reg [⟨some 1,none,.box (.tmp 0) false⟩,
⟨some 2,none,.mv (.cst (.bool false))⟩])
(.seq (.seq (.reg [⟨some 10,none,.call 11 []⟩,
⟨some 11,none,.un .not (.tmp 10)⟩])
(.cond (.tmp 11)
(.seq (.reg [⟨some 2,none,.mv (.cst (.bool false))⟩])
(.ret))
(.skip)))
(.seq (.draw [(⟨some 12,none,.fad (.tmp 1) 0⟩,0,[]),
(⟨some 13,none,.load (.tmp 12) 3 true⟩,1,[]),
(⟨some 14,none,.fad (.tmp 1) 0⟩,2,[]),
(⟨some 15,none,.load (.tmp 14) 3 true⟩,3,[]),
(⟨some 3,none,.bare 3⟩,4,[]),
(⟨some 4,none,.bare 3⟩,5,[]),
(⟨none,none,.store (.tmp 3) (.tmp 13) 3⟩,6,[3]),
(⟨none,none,.store (.tmp 4) (.tmp 15) 3⟩,7,[])])
(.seq (.draw [(⟨some 16,none,.bsl 0 5 true [(.int .i64 0),(.str ⟨#[]⟩),(.vec [] .any),(.vec [] .any),(.vec [] .any)] []⟩,0,[]),
(⟨some 17,none,.fad (.tmp 1) 0⟩,1,[]),
(⟨some 18,none,.fad (.tmp 17) 2⟩,2,[]),
(⟨some 19,none,.load (.tmp 18) 1 false⟩,3,[]),
(⟨some 23,none,.fad (.tmp 1) 4⟩,7,[]),
(⟨some 24,none,.load (.tmp 23) 5 true⟩,8,[]),
(⟨some 25,none,.bsl 1 5 true [(.int .i64 0),(.int .i64 0),(.int .u64 0),(.str ⟨#[]⟩),(.vec [] .any)] [(0,5,(.tmp 24))]⟩,9,[]),
(⟨some 26,none,.fad (.tmp 1) 9⟩,10,[]),
(⟨some 27,none,.load (.tmp 26) 5 true⟩,11,[]),
(⟨some 30,none,.fad (.tmp 1) 14⟩,14,[]),
(⟨some 31,none,.load (.tmp 30) 5 true⟩,15,[]),
(⟨some 20,none,.app (.tmp 16) (.tmp 19) 5 96 true false⟩,4,[5,8,10]),
(⟨some 21,none,.call 21 [(.cst (.int .u64 0))]⟩,5,[5,8,10]),
(⟨some 22,none,.call 22 [(.tmp 21)]⟩,6,[5,8,10]),
(⟨some 28,none,.call 22 [(.tmp 27)]⟩,12,[5,10]),
(⟨some 29,none,.bsl 1 5 true [(.int .i64 0),(.str ⟨#[]⟩),(.vec [] .any),(.vec [] .any),(.vec [] .any)] [(0,5,(.tmp 28))]⟩,13,[]),
(⟨some 32,none,.call 22 [(.tmp 31)]⟩,16,[5]),
(⟨some 33,none,.bsl 1 5 true [(.int .i64 0),(.str ⟨#[]⟩),(.vec [] .any),(.vec [] .any),(.vec [] .any)] [(0,5,(.tmp 32))]⟩,17,[]),
(⟨some 34,none,.bld [(.int .i64 0),(.str ⟨#[]⟩),(.vec [] .any),(.vec [] .any),(.vec [] .any)] [(0,1,(.cst (.int .i64 3))),(2,1,(.tmp 25)),(3,1,(.tmp 29)),(4,1,(.tmp 33))]⟩,18,[]),
(⟨some 35,none,.call 17 [(.cst (.str ⟨#[99,104,111,115,101,110]⟩))]⟩,19,[5]),
(⟨some 36,none,.call 20 [(.tmp 35)]⟩,20,[5]),
(⟨some 37,none,.bsl 3 5 true [(.int .i64 0),(.str ⟨#[]⟩),(.vec [] .any),(.vec [] .any),(.vec [] .any)] [(0,5,(.tmp 22)),(5,5,(.tmp 34)),(10,5,(.tmp 36))]⟩,21,[]),
(⟨some 38,none,.app (.tmp 20) (.tmp 37) 5 96 true false⟩,22,[]),
(⟨some 39,none,.fad (.tmp 3) 2⟩,23,[]),
(⟨none,none,.store (.tmp 39) (.tmp 38) 1⟩,24,[])])
(.seq (.reg [⟨some 40,none,.fad (.tmp 1) 4⟩,
⟨some 41,none,.load (.tmp 40) 5 true⟩,
⟨some 42,none,.fad (.tmp 1) 9⟩,
⟨some 43,none,.load (.tmp 42) 5 true⟩,
⟨some 44,none,.fad (.tmp 1) 14⟩,
⟨some 45,none,.load (.tmp 44) 5 true⟩,
⟨some 46,none,.bsl 3 5 true [(.int .i64 0),(.int .i64 0),(.int .u64 0),(.str ⟨#[]⟩),(.vec [] .any)] [(0,5,(.tmp 41)),(5,5,(.tmp 43)),(10,5,(.tmp 45))]⟩,
⟨some 47,none,.bld [(.int .i64 0),(.int .i64 0),(.int .u64 0),(.str ⟨#[]⟩),(.vec [] .any)] [(0,1,(.cst (.int .i64 6))),(4,1,(.tmp 46))]⟩,
⟨some 5,none,.allocz [(.int .i64 0),(.int .i64 0),(.int .u64 0),(.str ⟨#[]⟩),(.vec [] .full)] false⟩,
⟨none,none,.store (.tmp 5) (.tmp 47) 5⟩])
(.seq (.draw [(⟨some 48,none,.bsl 0 5 true [(.int .i64 0),(.str ⟨#[]⟩),(.vec [] .any),(.vec [] .any),(.vec [] .any)] []⟩,0,[]),
(⟨some 49,none,.fad (.tmp 1) 0⟩,1,[]),
(⟨some 50,none,.fad (.tmp 49) 2⟩,2,[]),
(⟨some 51,none,.load (.tmp 50) 1 false⟩,3,[]),
(⟨some 59,none,.load (.tmp 5) 5 true⟩,11,[]),
(⟨some 52,none,.app (.tmp 48) (.tmp 51) 5 96 true false⟩,4,[4]),
(⟨some 53,none,.call 21 [(.cst (.int .u64 0))]⟩,5,[4]),
(⟨some 54,none,.call 22 [(.tmp 53)]⟩,6,[4]),
(⟨some 55,none,.call 21 [(.cst (.int .u64 0))]⟩,7,[4]),
(⟨some 56,none,.call 22 [(.tmp 55)]⟩,8,[4]),
(⟨some 57,none,.call 21 [(.cst (.int .u64 0))]⟩,9,[4]),
(⟨some 58,none,.call 22 [(.tmp 57)]⟩,10,[4]),
(⟨some 60,none,.call 22 [(.tmp 59)]⟩,12,[]),
(⟨some 61,none,.call 17 [(.cst (.str ⟨#[99,104,111,115,101,110]⟩))]⟩,13,[]),
(⟨some 62,none,.call 20 [(.tmp 61)]⟩,14,[]),
(⟨some 63,none,.bsl 5 5 true [(.int .i64 0),(.str ⟨#[]⟩),(.vec [] .any),(.vec [] .any),(.vec [] .any)] [(0,5,(.tmp 54)),(5,5,(.tmp 56)),(10,5,(.tmp 58)),(15,5,(.tmp 60)),(20,5,(.tmp 62))]⟩,15,[]),
(⟨some 64,none,.app (.tmp 52) (.tmp 63) 5 96 true false⟩,16,[]),
(⟨some 65,none,.fad (.tmp 4) 2⟩,17,[]),
(⟨none,none,.store (.tmp 65) (.tmp 64) 1⟩,18,[])])
(.seq (.seq (.reg [⟨some 66,none,.load (.tmp 3) 3 true⟩,
⟨some 67,none,.fad (.tmp 1) 3⟩,
⟨some 68,none,.load (.tmp 67) 1 false⟩,
⟨some 69,none,.call 12 [(.tmp 66),(.tmp 68),(.cst (.int .i64 150))]⟩,
⟨some 70,none,.un .not (.tmp 69)⟩,
⟨some 71,none,.mv (.tmp 70)⟩,
⟨some 72,some (71,false),.load (.tmp 4) 3 true⟩,
⟨some 73,some (71,false),.fad (.tmp 1) 3⟩,
⟨some 74,some (71,false),.load (.tmp 73) 1 false⟩,
⟨some 75,some (71,false),.call 12 [(.tmp 72),(.tmp 74),(.cst (.int .i64 150))]⟩,
⟨some 76,some (71,false),.un .not (.tmp 75)⟩,
⟨some 77,none,.pick (.tmp 71) (.cst (.bool true)) (.tmp 76)⟩])
(.cond (.tmp 77)
(.seq (.reg [⟨some 2,none,.mv (.cst (.bool true))⟩])
(.ret))
(.skip)))
(.seq (.reg [⟨some 79,none,.load (.tmp 3) 3 true⟩,
⟨some 80,none,.fad (.tmp 1) 3⟩,
⟨some 81,none,.load (.tmp 80) 1 false⟩,
⟨some 82,none,.call 13 [(.tmp 79),(.tmp 81)]⟩,
⟨some 78,none,.mv (.tmp 82)⟩,
⟨some 83,none,.ext (.tmp 78) 0⟩,
⟨some 84,none,.ext (.tmp 78) 1⟩,
⟨some 6,none,.mv (.tmp 83)⟩,
⟨some 7,none,.mv (.tmp 84)⟩])
(.seq (.reg [⟨some 86,none,.load (.tmp 4) 3 true⟩,
⟨some 87,none,.fad (.tmp 1) 3⟩,
⟨some 88,none,.load (.tmp 87) 1 false⟩,
⟨some 89,none,.call 13 [(.tmp 86),(.tmp 88)]⟩,
⟨some 85,none,.mv (.tmp 89)⟩,
⟨some 90,none,.ext (.tmp 85) 0⟩,
⟨some 91,none,.ext (.tmp 85) 1⟩,
⟨some 8,none,.mv (.tmp 90)⟩,
⟨some 9,none,.mv (.tmp 91)⟩])
(.seq (.reg [⟨some 92,none,.mv (.tmp 7)⟩,
⟨some 93,none,.bin .eql .plain (.tmp 92) (.cst (.int .i64 0))⟩,
⟨some 94,none,.mv (.tmp 9)⟩,
⟨some 95,none,.bin .eql .plain (.tmp 94) (.cst (.int .i64 0))⟩,
⟨some 96,none,.bin .eql .bool (.tmp 93) (.tmp 95)⟩,
⟨some 97,none,.mv (.tmp 96)⟩,
⟨some 98,some (97,true),.mv (.tmp 6)⟩,
⟨some 99,some (97,true),.mv (.tmp 8)⟩,
⟨some 100,some (97,true),.call 15 [(.tmp 98),(.tmp 99)]⟩,
⟨some 101,none,.pick (.tmp 97) (.tmp 100) (.cst (.bool false))⟩,
⟨some 2,none,.mv (.tmp 101)⟩])
(.ret))))))))))⟩
theorem tr8:trF Go.Proofs.Tryd.prog { obj:=[],bare:=[3,4],loops:=[],draws:=[(3,([0,1,0,4,0,0,51,127],[(0,[]),(1,[]),(2,[]),(3,[]),(4,[]),(5,[]),(6,[3]),(7,[])])),(4,([0,0,2,6,15,31,63,0,128,384,0,1024,3199,7295,0,16384,56447,121983,262143,121983,646271,2097151,4194303,8388607,16777215],[(0,[]),(1,[]),(2,[]),(3,[]),(7,[]),(8,[]),(9,[]),(10,[]),(11,[]),(14,[]),(15,[]),(4,[5,8,10]),(5,[5,8,10]),(6,[5,8,10]),(12,[5,10]),(13,[]),(16,[5]),(17,[]),(18,[]),(19,[5]),(20,[5]),(21,[]),(22,[]),(23,[]),(24,[])])),(6,([0,0,2,6,15,31,63,127,255,511,1023,0,4095,8191,16383,32767,65535,131071,262143],[(0,[]),(1,[]),(2,[]),(3,[]),(11,[]),(4,[4]),(5,[4]),(6,[4]),(7,[4]),(8,[4]),(9,[4]),(10,[4]),(12,[]),(13,[]),(14,[]),(15,[]),(16,[]),(17,[]),(18,[])]))],glob:=globs,fresh:=false } Go.Proofs.Tryd.f8=some ir8:=by kernel_rfl
def ir9:IFn:=⟨96,[.tmp 6 false],
.seq (.reg [⟨some 6,none,.mv (.cst (.bool false))⟩])
(.seq (.seq (.reg [⟨some 13,none,.call 11 []⟩,
⟨some 14,none,.un .not (.tmp 13)⟩])
(.cond (.tmp 14)
(.seq (.reg [⟨some 6,none,.mv (.cst (.bool false))⟩])
(.ret))
(.skip)))
(.seq (.reg [⟨some 15,none,.call 17 [(.cst (.str ⟨#[97]⟩))]⟩,
⟨some 16,none,.call 17 [(.cst (.str ⟨#[98]⟩))]⟩,
⟨some 17,none,.mv (.tmp 2)⟩,
⟨some 18,none,.cvI .u64 (.tmp 17)⟩,
⟨some 19,none,.call 21 [(.tmp 18)]⟩,
⟨some 7,none,.allocz [(.int .i64 0),(.int .i64 0),(.int .u64 0),(.str ⟨#[]⟩),(.vec [] .full)] false⟩,
⟨some 8,none,.allocz [(.int .i64 0),(.int .i64 0),(.int .u64 0),(.str ⟨#[]⟩),(.vec [] .full)] false⟩,
⟨some 9,none,.allocz [(.int .i64 0),(.int .i64 0),(.int .u64 0),(.str ⟨#[]⟩),(.vec [] .full)] false⟩,
⟨none,none,.store (.tmp 7) (.tmp 15) 5⟩,
⟨none,none,.store (.tmp 8) (.tmp 16) 5⟩,
⟨none,none,.store (.tmp 9) (.tmp 19) 5⟩])
(.seq (.draw [(⟨some 20,none,.load (.tmp 7) 5 true⟩,0,[]),
(⟨some 21,none,.load (.tmp 8) 5 true⟩,1,[]),
(⟨some 23,none,.load (.tmp 8) 5 true⟩,3,[]),
(⟨some 24,none,.load (.tmp 7) 5 true⟩,4,[]),
(⟨some 10,none,.bare 5⟩,7,[]),
(⟨some 22,none,.call 18 [(.cst (.int .i64 4)),(.tmp 20),(.tmp 21)]⟩,2,[2,3]),
(⟨some 25,none,.bsl 3 5 true [(.int .i64 0),(.int .i64 0),(.int .u64 0),(.str ⟨#[]⟩),(.vec [] .any)] [(0,5,(.tmp 22)),(5,5,(.tmp 23)),(10,5,(.tmp 24))]⟩,5,[]),
(⟨some 26,none,.bld [(.int .i64 0),(.int .i64 0),(.int .u64 0),(.str ⟨#[]⟩),(.vec [] .any)] [(0,1,(.cst (.int .i64 6))),(4,1,(.tmp 25))]⟩,6,[]),
(⟨none,none,.store (.tmp 10) (.tmp 26) 5⟩,8,[])])
(.seq (.draw [(⟨some 28,none,.load (.tmp 7) 5 true⟩,0,[]),
(⟨some 29,none,.load (.tmp 8) 5 true⟩,1,[]),
(⟨some 30,none,.load (.tmp 9) 5 true⟩,2,[]),
(⟨some 33,none,.load (.tmp 7) 5 true⟩,5,[]),
(⟨some 34,none,.load (.tmp 8) 5 true⟩,6,[]),
(⟨some 36,none,.load (.tmp 7) 5 true⟩,8,[]),
(⟨some 37,none,.load (.tmp 9) 5 true⟩,9,[]),
(⟨some 41,none,.load (.tmp 7) 5 true⟩,13,[]),
(⟨some 42,none,.load (.tmp 8) 5 true⟩,14,[]),
(⟨some 44,none,.load (.tmp 9) 5 true⟩,16,[]),
(⟨some 46,none,.load (.tmp 7) 5 true⟩,18,[]),
(⟨some 47,none,.load (.tmp 8) 5 true⟩,19,[]),
(⟨some 48,none,.load (.tmp 9) 5 true⟩,20,[]),
(⟨some 52,none,.load (.tmp 7) 5 true⟩,24,[]),
(⟨some 53,none,.load (.tmp 8) 5 true⟩,25,[]),
(⟨some 55,none,.load (.tmp 8) 5 true⟩,27,[]),
(⟨some 56,none,.load (.tmp 7) 5 true⟩,28,[]),
(⟨some 59,none,.load (.tmp 7) 5 true⟩,31,[]),
(⟨some 60,none,.load (.tmp 8) 5 true⟩,32,[]),
(⟨some 62,none,.load (.tmp 8) 5 true⟩,34,[]),
(⟨some 64,none,.load (.tmp 10) 5 true⟩,36,[]),
(⟨some 66,none,.load (.tmp 7) 5 true⟩,38,[]),
(⟨some 67,none,.load (.tmp 8) 5 true⟩,39,[]),
(⟨some 69,none,.load (.tmp 9) 5 true⟩,41,[]),
(⟨some 71,none,.load (.tmp 7) 5 true⟩,43,[]),
(⟨some 72,none,.load (.tmp 8) 5 true⟩,44,[]),
(⟨some 73,none,.load (.tmp 9) 5 true⟩,45,[]),
(⟨some 79,none,.mv (.tmp 0)⟩,51,[]),
(⟨some 80,none,.cvI .u64 (.tmp 79)⟩,52,[]),
(⟨some 81,none,.bsl 1 1 false [(.int .u64 0)] [(0,1,(.tmp 80))]⟩,53,[]),
(⟨some 82,none,.mv (.tmp 1)⟩,54,[]),
(⟨some 83,none,.cvI .u64 (.tmp 82)⟩,55,[]),
(⟨some 84,none,.bsl 1 1 false [(.int .u64 0)] [(0,1,(.tmp 83))]⟩,56,[]),
(⟨some 85,none,.bsl 2 1 false [(.vec [] .any)] [(0,1,(.tmp 81)),(1,1,(.tmp 84))]⟩,57,[]),
(⟨some 31,none,.call 18 [(.cst (.int .i64 1)),(.tmp 29),(.tmp 30)]⟩,3,[0,3,4,5,6,7,8,9,10,11,12,13,14,15,16,17,18,19,20,21,22,23,24,25,26]),
(⟨some 32,none,.call 18 [(.cst (.int .i64 3)),(.tmp 28),(.tmp 31)]⟩,4,[3,4,5,6,7,8,9,10,11,12,13,14,15,16,17,18,19,20,21,22,23,24,25,26]),
(⟨some 35,none,.call 18 [(.cst (.int .i64 3)),(.tmp 33),(.tmp 34)]⟩,7,[5,6,7,8,9,10,11,12,13,14,15,16,17,18,19,20,21,22,23,24,25,26]),
(⟨some 38,none,.call 18 [(.cst (.int .i64 3)),(.tmp 36),(.tmp 37)]⟩,10,[7,8,9,10,11,12,13,14,15,16,17,18,19,20,21,22,23,24,25,26]),
(⟨some 39,none,.call 18 [(.cst (.int .i64 1)),(.tmp 35),(.tmp 38)]⟩,11,[7,8,9,10,11,12,13,14,15,16,17,18,19,20,21,22,23,24,25,26]),
(⟨some 40,none,.call 23 [(.tmp 32),(.tmp 39)]⟩,12,[7,8,9,10,11,12,13,14,15,16,17,18,19,20,21,22,23,24,25,26]),
(⟨some 43,none,.call 18 [(.cst (.int .i64 1)),(.tmp 41),(.tmp 42)]⟩,15,[9,10,11,12,13,14,15,16,17,18,19,20,21,22,23,24,25,26]),
(⟨some 45,none,.call 18 [(.cst (.int .i64 1)),(.tmp 43),(.tmp 44)]⟩,17,[10,11,12,13,14,15,16,17,18,19,20,21,22,23,24,25,26]),
(⟨some 49,none,.call 18 [(.cst (.int .i64 1)),(.tmp 47),(.tmp 48)]⟩,21,[10,13,14,15,16,17,18,19,20,21,22,23,24,25,26]),
(⟨some 50,none,.call 18 [(.cst (.int .i64 1)),(.tmp 46),(.tmp 49)]⟩,22,[13,14,15,16,17,18,19,20,21,22,23,24,25,26]),
(⟨some 51,none,.call 23 [(.tmp 45),(.tmp 50)]⟩,23,[13,14,15,16,17,18,19,20,21,22,23,24,25,26]),
(⟨some 54,none,.call 18 [(.cst (.int .i64 3)),(.tmp 52),(.tmp 53)]⟩,26,[15,16,17,18,19,20,21,22,23,24,25,26]),
(⟨some 57,none,.call 18 [(.cst (.int .i64 3)),(.tmp 55),(.tmp 56)]⟩,29,[17,18,19,20,21,22,23,24,25,26]),
(⟨some 58,none,.call 23 [(.tmp 54),(.tmp 57)]⟩,30,[17,18,19,20,21,22,23,24,25,26]),
(⟨some 61,none,.call 18 [(.cst (.int .i64 2)),(.tmp 59),(.tmp 60)]⟩,33,[19,20,21,22,23,24,25,26]),
(⟨some 63,none,.call 18 [(.cst (.int .i64 1)),(.tmp 61),(.tmp 62)]⟩,35,[20,21,22,23,24,25,26]),
(⟨some 65,none,.call 23 [(.tmp 63),(.tmp 64)]⟩,37,[21,22,23,24,25,26]),
(⟨some 68,none,.call 18 [(.cst (.int .i64 2)),(.tmp 66),(.tmp 67)]⟩,40,[23,24,25,26]),
(⟨some 70,none,.call 18 [(.cst (.int .i64 2)),(.tmp 68),(.tmp 69)]⟩,42,[24,25,26]),
(⟨some 74,none,.call 18 [(.cst (.int .i64 1)),(.tmp 72),(.tmp 73)]⟩,46,[24]),
(⟨some 75,none,.call 18 [(.cst (.int .i64 2)),(.tmp 71),(.tmp 74)]⟩,47,[]),
(⟨some 76,none,.call 23 [(.tmp 70),(.tmp 75)]⟩,48,[]),
(⟨some 77,none,.bsl 5 5 true [(.int .i64 0),(.str ⟨#[]⟩),(.vec [] .any),(.vec [] .any),(.vec [] .any)] [(0,5,(.tmp 40)),(5,5,(.tmp 51)),(10,5,(.tmp 58)),(15,5,(.tmp 65)),(20,5,(.tmp 76))]⟩,49,[]),
(⟨some 78,none,.call 19 [(.cst (.int .i64 16)),(.tmp 77)]⟩,50,[]),
(⟨some 86,none,.call 13 [(.tmp 78),(.tmp 85)]⟩,58,[]),
(⟨some 27,none,.mv (.tmp 86)⟩,59,[]),
(⟨some 87,none,.ext (.tmp 27) 0⟩,60,[]),
(⟨some 88,none,.ext (.tmp 27) 1⟩,61,[]),
(⟨some 11,none,.mv (.tmp 87)⟩,62,[]),
(⟨some 12,none,.mv (.tmp 88)⟩,63,[])])
(.seq (.reg [⟨some 89,none,.mv (.tmp 12)⟩,
⟨some 90,none,.bin .eql .plain (.tmp 89) (.cst (.int .i64 0))⟩,
⟨some 91,none,.mv (.tmp 90)⟩,
⟨some 92,some (91,true),.mv (.tmp 11)⟩,
⟨some 93,some (91,true),.bsl 5 1 false [(.int .u64 0)] [(0,1,(.cst (.int .u64 1))),(1,1,(.cst (.int .u64 1))),(2,1,(.cst (.int .u64 1))),(3,1,(.cst (.int .u64 1))),(4,1,(.cst (.int .u64 1)))]⟩,
⟨some 94,some (91,true),.call 15 [(.tmp 92),(.tmp 93)]⟩,
⟨some 95,none,.pick (.tmp 91) (.tmp 94) (.cst (.bool false))⟩,
⟨some 6,none,.mv (.tmp 95)⟩])
(.ret))))))⟩
theorem tr9:trF Go.Proofs.Tryd.prog { obj:=[],bare:=[10],loops:=[],draws:=[(4,([0,0,3,0,0,31,63,0,255],[(0,[]),(1,[]),(3,[]),(4,[]),(7,[]),(2,[2,3]),(5,[]),(6,[]),(8,[])])),(5,([0,0,0,6,15,0,0,127,0,0,1023,2047,4095,0,0,32767,0,131071,0,0,0,1835007,4194303,8388607,0,0,67108863,0,0,536870911,1073741823,0,0,8589934591,0,34359738367,0,137438953471,0,0,1099511627775,0,4398046511103,0,0,0,61572651155455,140737488355327,281474976710655,562949953421311,1125899906842623,0,2251799813685248,6755399441055744,0,18014398509481984,54043195528445952,141863388262170624,288230376151711743,576460752303423487,1152921504606846975,1152921504606846975,2305843009213693951,9223372036854775807],[(0,[]),(1,[]),(2,[]),(5,[]),(6,[]),(8,[]),(9,[]),(13,[]),(14,[]),(16,[]),(18,[]),(19,[]),(20,[]),(24,[]),(25,[]),(27,[]),(28,[]),(31,[]),(32,[]),(34,[]),(36,[]),(38,[]),(39,[]),(41,[]),(43,[]),(44,[]),(45,[]),(51,[]),(52,[]),(53,[]),(54,[]),(55,[]),(56,[]),(57,[]),(3,[0,3,4,5,6,7,8,9,10,11,12,13,14,15,16,17,18,19,20,21,22,23,24,25,26]),(4,[3,4,5,6,7,8,9,10,11,12,13,14,15,16,17,18,19,20,21,22,23,24,25,26]),(7,[5,6,7,8,9,10,11,12,13,14,15,16,17,18,19,20,21,22,23,24,25,26]),(10,[7,8,9,10,11,12,13,14,15,16,17,18,19,20,21,22,23,24,25,26]),(11,[7,8,9,10,11,12,13,14,15,16,17,18,19,20,21,22,23,24,25,26]),(12,[7,8,9,10,11,12,13,14,15,16,17,18,19,20,21,22,23,24,25,26]),(15,[9,10,11,12,13,14,15,16,17,18,19,20,21,22,23,24,25,26]),(17,[10,11,12,13,14,15,16,17,18,19,20,21,22,23,24,25,26]),(21,[10,13,14,15,16,17,18,19,20,21,22,23,24,25,26]),(22,[13,14,15,16,17,18,19,20,21,22,23,24,25,26]),(23,[13,14,15,16,17,18,19,20,21,22,23,24,25,26]),(26,[15,16,17,18,19,20,21,22,23,24,25,26]),(29,[17,18,19,20,21,22,23,24,25,26]),(30,[17,18,19,20,21,22,23,24,25,26]),(33,[19,20,21,22,23,24,25,26]),(35,[20,21,22,23,24,25,26]),(37,[21,22,23,24,25,26]),(40,[23,24,25,26]),(42,[24,25,26]),(46,[24]),(47,[]),(48,[]),(49,[]),(50,[]),(58,[]),(59,[]),(60,[]),(61,[]),(62,[]),(63,[])]))],glob:=globs,fresh:=false } Go.Proofs.Tryd.f9=some ir9:=by kernel_rfl
def ir10:IFn:=⟨60,[.tmp 4 false],
.seq (.reg [⟨some 2,none,.box (.tmp 0) false⟩,
⟨some 4,none,.mv (.cst (.bool false))⟩])
(.seq (.seq (.reg [⟨some 10,none,.call 11 []⟩,
⟨some 11,none,.un .not (.tmp 10)⟩])
(.cond (.tmp 11)
(.seq (.reg [⟨some 4,none,.mv (.cst (.bool false))⟩])
(.ret))
(.skip)))
(.seq (.seq (.reg [⟨some 12,none,.load (.tmp 2) 3 true⟩,
⟨some 13,none,.mv (.tmp 1)⟩,
⟨some 14,none,.call 12 [(.tmp 12),(.tmp 13),(.cst (.int .i64 150))]⟩,
⟨some 15,none,.un .not (.tmp 14)⟩])
(.cond (.tmp 15)
(.seq (.reg [⟨some 4,none,.mv (.cst (.bool true))⟩])
(.ret))
(.skip)))
(.seq (.reg [⟨some 17,none,.load (.tmp 2) 3 true⟩,
⟨some 18,none,.call 24 [(.tmp 17)]⟩,
⟨some 16,none,.mv (.tmp 18)⟩,
⟨some 19,none,.ext (.tmp 16) 0⟩,
⟨some 20,none,.ext (.tmp 16) 1⟩,
⟨some 5,none,.mv (.tmp 19)⟩,
⟨some 6,none,.mv (.tmp 20)⟩])
(.seq (.reg [⟨some 22,none,.load (.tmp 2) 3 true⟩,
⟨some 23,none,.mv (.tmp 1)⟩,
⟨some 24,none,.call 13 [(.tmp 22),(.tmp 23)]⟩,
⟨some 21,none,.mv (.tmp 24)⟩,
⟨some 25,none,.ext (.tmp 21) 0⟩,
⟨some 26,none,.ext (.tmp 21) 1⟩,
⟨some 7,none,.mv (.tmp 25)⟩,
⟨some 8,none,.mv (.tmp 26)⟩])
(.seq (.seq (.reg [⟨some 27,none,.mv (.tmp 6)⟩,
⟨some 28,none,.bin .neq .plain (.tmp 27) (.cst (.int .i64 0))⟩])
(.cond (.tmp 28)
(.seq (.reg [⟨some 29,none,.mv (.tmp 8)⟩,
⟨some 30,none,.mv (.tmp 6)⟩,
⟨some 31,none,.bin .eql .plain (.tmp 29) (.tmp 30)⟩,
⟨some 32,none,.mv (.tmp 31)⟩,
⟨some 33,some (32,true),.mv (.tmp 7)⟩,
⟨some 34,some (32,true),.len .i (.tmp 33)⟩,
⟨some 35,some (32,true),.bin .eql .plain (.tmp 34) (.cst (.int .i64 0))⟩,
⟨some 36,none,.pick (.tmp 32) (.tmp 35) (.cst (.bool false))⟩,
⟨some 4,none,.mv (.tmp 36)⟩])
(.ret))
(.skip)))
(.seq (.seq (.reg [⟨some 37,none,.load (.tmp 2) 3 true⟩,
⟨some 38,none,.mv (.tmp 1)⟩,
⟨some 39,none,.call 25 [(.tmp 37),(.tmp 38)]⟩,
⟨some 40,none,.un .not (.tmp 39)⟩])
(.cond (.tmp 40)
(.seq (.reg [⟨some 41,none,.mv (.tmp 8)⟩,
⟨some 42,none,.bin .eql .plain (.tmp 41) (.cst (.int .i64 1))⟩,
⟨some 4,none,.mv (.tmp 42)⟩])
(.ret))
(.skip)))
(.seq (.seq (.reg [⟨some 9,none,.mv (.cst (.int .i64 0))⟩])
(.block 0
(.loop [5,7,8,9]
(.seq (.seq (.reg [⟨some 43,none,.mv (.tmp 9)⟩,
⟨some 44,none,.mv (.tmp 7)⟩,
⟨some 45,none,.len .i (.tmp 44)⟩,
⟨some 46,none,.bin .lss .plain (.tmp 43) (.tmp 45)⟩])
(.cond (.tmp 46)
(.skip)
(.brk 0)))
(.seq (.block 1
(.seq (.reg [⟨some 49,none,.mv (.tmp 7)⟩,
⟨some 50,none,.mv (.tmp 9)⟩,
⟨some 51,none,.idxS (.tmp 49) (.tmp 50) 1⟩,
⟨some 52,none,.load (.tmp 51) 1 false⟩,
⟨some 53,none,.mv (.tmp 5)⟩,
⟨some 54,none,.max [(.tmp 53),(.cst (.int .i64 1))]⟩,
⟨some 55,none,.cvI .u64 (.tmp 54)⟩,
⟨some 56,none,.bin .shr .plain (.tmp 52) (.tmp 55)⟩,
⟨some 57,none,.bin .neq .plain (.tmp 56) (.cst (.int .u64 0))⟩])
(.cond (.tmp 57)
(.seq (.reg [⟨some 4,none,.mv (.cst (.bool false))⟩])
(.ret))
(.skip))))
(.reg [⟨some 47,none,.mv (.tmp 9)⟩,
⟨some 48,none,.bin .add .plain (.tmp 47) (.cst (.int .i64 1))⟩,
⟨some 9,none,.mv (.tmp 48)⟩]))))))
(.seq (.reg [⟨some 58,none,.mv (.tmp 8)⟩,
⟨some 59,none,.bin .eql .plain (.tmp 58) (.cst (.int .i64 0))⟩,
⟨some 4,none,.mv (.tmp 59)⟩])
(.ret)))))))))⟩
theorem tr10:trF Go.Proofs.Tryd.prog { obj:=[],bare:=[],loops:=[[5,7,8,9]],draws:=[],glob:=globs,fresh:=false } Go.Proofs.Tryd.f10=some ir10:=by kernel_rfl
def ir11:IFn:=⟨79,[.tmp 0 false],
.seq (.reg [⟨some 0,none,.mv (.cst (.bool false))⟩])
(.seq (.reg [⟨some 10,none,.call 17 [(.cst (.str ⟨#[97]⟩))]⟩,
⟨some 11,none,.call 17 [(.cst (.str ⟨#[98]⟩))]⟩,
⟨some 1,none,.allocz [(.int .i64 0),(.int .i64 0),(.int .u64 0),(.str ⟨#[]⟩),(.vec [] .full)] false⟩,
⟨some 2,none,.allocz [(.int .i64 0),(.int .i64 0),(.int .u64 0),(.str ⟨#[]⟩),(.vec [] .full)] false⟩,
⟨none,none,.store (.tmp 1) (.tmp 10) 5⟩,
⟨none,none,.store (.tmp 2) (.tmp 11) 5⟩])
(.seq (.draw [(⟨some 12,none,.load (.tmp 1) 5 true⟩,0,[]),
(⟨some 13,none,.load (.tmp 2) 5 true⟩,1,[]),
(⟨some 15,none,.load (.tmp 2) 5 true⟩,3,[]),
(⟨some 16,none,.load (.tmp 1) 5 true⟩,4,[]),
(⟨some 18,none,.load (.tmp 1) 5 true⟩,6,[]),
(⟨some 19,none,.load (.tmp 2) 5 true⟩,7,[]),
(⟨some 3,none,.bare 5⟩,11,[]),
(⟨some 14,none,.call 18 [(.cst (.int .i64 4)),(.tmp 12),(.tmp 13)]⟩,2,[2,3,4,5]),
(⟨some 17,none,.call 18 [(.cst (.int .i64 2)),(.tmp 15),(.tmp 16)]⟩,5,[4,5]),
(⟨some 20,none,.call 18 [(.cst (.int .i64 2)),(.tmp 18),(.tmp 19)]⟩,8,[]),
(⟨some 21,none,.bsl 3 5 true [(.int .i64 0),(.int .i64 0),(.int .u64 0),(.str ⟨#[]⟩),(.vec [] .any)] [(0,5,(.tmp 14)),(5,5,(.tmp 17)),(10,5,(.tmp 20))]⟩,9,[]),
(⟨some 22,none,.bld [(.int .i64 0),(.int .i64 0),(.int .u64 0),(.str ⟨#[]⟩),(.vec [] .any)] [(0,1,(.cst (.int .i64 6))),(4,1,(.tmp 21))]⟩,10,[]),
(⟨none,none,.store (.tmp 3) (.tmp 22) 5⟩,12,[])])
(.seq (.reg [⟨some 24,none,.load (.tmp 3) 5 true⟩,
⟨some 25,none,.call 20 [(.tmp 24)]⟩,
⟨some 26,none,.bsl 1 5 true [(.int .i64 0),(.str ⟨#[]⟩),(.vec [] .any),(.vec [] .any),(.vec [] .any)] [(0,5,(.tmp 25))]⟩,
⟨some 27,none,.call 19 [(.cst (.int .i64 4)),(.tmp 26)]⟩,
⟨some 28,none,.bsl 1 1 false [(.int .u64 0)] [(0,1,(.cst (.int .u64 3)))]⟩,
⟨some 29,none,.bsl 1 1 false [(.int .u64 0)] [(0,1,(.cst (.int .u64 9)))]⟩,
⟨some 30,none,.bsl 2 1 false [(.vec [] .any)] [(0,1,(.tmp 28)),(1,1,(.tmp 29))]⟩,
⟨some 31,none,.call 13 [(.tmp 27),(.tmp 30)]⟩,
⟨some 23,none,.mv (.tmp 31)⟩,
⟨some 32,none,.ext (.tmp 23) 0⟩,
⟨some 33,none,.ext (.tmp 23) 1⟩,
⟨some 4,none,.mv (.tmp 32)⟩,
⟨some 5,none,.mv (.tmp 33)⟩])
(.seq (.reg [⟨some 35,none,.load (.tmp 3) 5 true⟩,
⟨some 36,none,.call 20 [(.tmp 35)]⟩,
⟨some 37,none,.bsl 1 5 true [(.int .i64 0),(.str ⟨#[]⟩),(.vec [] .any),(.vec [] .any),(.vec [] .any)] [(0,5,(.tmp 36))]⟩,
⟨some 38,none,.call 19 [(.cst (.int .i64 4)),(.tmp 37)]⟩,
⟨some 39,none,.bsl 1 1 false [(.int .u64 0)] [(0,1,(.cst (.int .u64 3)))]⟩,
⟨some 40,none,.bsl 1 1 false [(.int .u64 0)] [(0,1,(.cst (.int .u64 16)))]⟩,
⟨some 41,none,.bsl 2 1 false [(.vec [] .any)] [(0,1,(.tmp 39)),(1,1,(.tmp 40))]⟩,
⟨some 42,none,.call 13 [(.tmp 38),(.tmp 41)]⟩,
⟨some 34,none,.mv (.tmp 42)⟩,
⟨some 43,none,.ext (.tmp 34) 0⟩,
⟨some 44,none,.ext (.tmp 34) 1⟩,
⟨some 6,none,.mv (.tmp 43)⟩,
⟨some 7,none,.mv (.tmp 44)⟩])
(.seq (.reg [⟨some 46,none,.call 17 [(.cst (.str ⟨#[99]⟩))]⟩,
⟨some 47,none,.call 20 [(.tmp 46)]⟩,
⟨some 48,none,.bsl 1 5 true [(.int .i64 0),(.str ⟨#[]⟩),(.vec [] .any),(.vec [] .any),(.vec [] .any)] [(0,5,(.tmp 47))]⟩,
⟨some 49,none,.call 19 [(.cst (.int .i64 4)),(.tmp 48)]⟩,
⟨some 50,none,.bsl 1 1 false [(.int .u64 0)] [(0,1,(.cst (.int .u64 3)))]⟩,
⟨some 51,none,.bsl 1 1 false [(.int .u64 0)] [(0,1,(.cst (.int .u64 9)))]⟩,
⟨some 52,none,.bsl 2 1 false [(.vec [] .any)] [(0,1,(.tmp 50)),(1,1,(.tmp 51))]⟩,
⟨some 53,none,.call 13 [(.tmp 49),(.tmp 52)]⟩,
⟨some 45,none,.mv (.tmp 53)⟩,
⟨some 54,none,.ext (.tmp 45) 0⟩,
⟨some 55,none,.ext (.tmp 45) 1⟩,
⟨some 8,none,.mv (.tmp 54)⟩,
⟨some 9,none,.mv (.tmp 55)⟩])
(.seq (.reg [⟨some 56,none,.mv (.tmp 5)⟩,
⟨some 57,none,.bin .eql .plain (.tmp 56) (.cst (.int .i64 0))⟩,
⟨some 58,none,.mv (.tmp 57)⟩,
⟨some 59,some (58,true),.mv (.tmp 4)⟩,
⟨some 60,some (58,true),.bsl 1 1 false [(.int .u64 0)] [(0,1,(.cst (.int .u64 6)))]⟩,
⟨some 61,some (58,true),.call 15 [(.tmp 59),(.tmp 60)]⟩,
⟨some 62,none,.pick (.tmp 58) (.tmp 61) (.cst (.bool false))⟩,
⟨some 63,none,.mv (.tmp 62)⟩,
⟨some 64,some (63,true),.mv (.tmp 7)⟩,
⟨some 65,some (63,true),.bin .eql .plain (.tmp 64) (.cst (.int .i64 1))⟩,
⟨some 66,none,.pick (.tmp 63) (.tmp 65) (.cst (.bool false))⟩,
⟨some 67,none,.mv (.tmp 66)⟩,
⟨some 68,some (67,true),.mv (.tmp 9)⟩,
⟨some 69,some (67,true),.bin .eql .plain (.tmp 68) (.cst (.int .i64 4))⟩,
⟨some 70,none,.pick (.tmp 67) (.tmp 69) (.cst (.bool false))⟩,
⟨some 71,none,.mv (.tmp 70)⟩,
⟨some 72,some (71,true),.call 19 [(.cst (.int .i64 4)),(.cst (.vec [] .full))]⟩,
⟨some 73,some (71,true),.bsl 1 1 false [(.int .u64 0)] [(0,1,(.cst (.int .u64 15)))]⟩,
⟨some 74,some (71,true),.bsl 1 1 false [(.int .u64 0)] [(0,1,(.cst (.int .u64 0)))]⟩,
⟨some 75,some (71,true),.bsl 2 1 false [(.vec [] .any)] [(0,1,(.tmp 73)),(1,1,(.tmp 74))]⟩,
⟨some 76,some (71,true),.call 16 [(.tmp 72),(.tmp 75)]⟩,
⟨some 77,some (71,true),.bin .eql .plain (.tmp 76) (.cst (.int .i64 0))⟩,
⟨some 78,none,.pick (.tmp 71) (.tmp 77) (.cst (.bool false))⟩,
⟨some 0,none,.mv (.tmp 78)⟩])
(.ret)))))))⟩
theorem tr11:trF Go.Proofs.Tryd.prog { obj:=[],bare:=[3],loops:=[],draws:=[(2,([0,0,3,0,0,31,0,0,255,511,1023,0,4095],[(0,[]),(1,[]),(3,[]),(4,[]),(6,[]),(7,[]),(11,[]),(2,[2,3,4,5]),(5,[4,5]),(8,[]),(9,[]),(10,[]),(12,[])]))],glob:=globs,fresh:=false } Go.Proofs.Tryd.f11=some ir11:=by kernel_rfl
def ir12:IFn:=⟨31,[.tmp 6 false],
.seq (.reg [⟨some 3,none,.box (.tmp 0) false⟩,
⟨some 6,none,.mv (.cst (.bool false))⟩])
(.seq (.seq (.reg [⟨some 8,none,.mv (.tmp 1)⟩,
⟨some 9,none,.len .i (.tmp 8)⟩,
⟨some 10,none,.bin .gtr .plain (.tmp 9) (.cst (.int .i64 20))⟩,
⟨some 11,none,.mv (.tmp 10)⟩,
⟨some 12,some (11,false),.load (.tmp 3) 3 true⟩,
⟨some 13,some (11,false),.mv (.tmp 2)⟩,
⟨some 14,some (11,false),.call 26 [(.tmp 12),(.tmp 13)]⟩,
⟨some 15,some (11,false),.un .not (.tmp 14)⟩,
⟨some 16,none,.pick (.tmp 11) (.cst (.bool true)) (.tmp 15)⟩])
(.cond (.tmp 16)
(.seq (.reg [⟨some 6,none,.mv (.cst (.bool false))⟩])
(.ret))
(.skip)))
(.seq (.seq (.reg [⟨some 7,none,.mv (.cst (.int .i64 0))⟩])
(.block 0
(.loop [1,3,7]
(.seq (.seq (.reg [⟨some 17,none,.mv (.tmp 7)⟩,
⟨some 18,none,.mv (.tmp 1)⟩,
⟨some 19,none,.len .i (.tmp 18)⟩,
⟨some 20,none,.bin .lss .plain (.tmp 17) (.tmp 19)⟩])
(.cond (.tmp 20)
(.skip)
(.brk 0)))
(.seq (.block 1
(.seq (.reg [⟨some 23,none,.mv (.tmp 1)⟩,
⟨some 24,none,.mv (.tmp 7)⟩,
⟨some 25,none,.idxS (.tmp 23) (.tmp 24) 1⟩,
⟨some 26,none,.load (.tmp 25) 1 false⟩,
⟨some 27,none,.len .i (.tmp 26)⟩,
⟨some 28,none,.bin .gtr .plain (.tmp 27) (.cst (.int .i64 200))⟩])
(.cond (.tmp 28)
(.seq (.reg [⟨some 6,none,.mv (.cst (.bool false))⟩])
(.ret))
(.skip))))
(.reg [⟨some 21,none,.mv (.tmp 7)⟩,
⟨some 22,none,.bin .add .plain (.tmp 21) (.cst (.int .i64 1))⟩,
⟨some 7,none,.mv (.tmp 22)⟩]))))))
(.seq (.reg [⟨some 29,none,.load (.tmp 3) 3 true⟩,
⟨some 30,none,.call 27 [(.tmp 29)]⟩,
⟨some 6,none,.mv (.tmp 30)⟩])
(.ret))))⟩
theorem tr12:trF Go.Proofs.Tryd.prog { obj:=[],bare:=[],loops:=[[1,3,7]],draws:=[],glob:=globs,fresh:=false } Go.Proofs.Tryd.f12=some ir12:=by kernel_rfl
def ir13:IFn:=⟨109,[.tmp 4 false,.tmp 5 false],
.seq (.reg [⟨some 2,none,.box (.tmp 0) false⟩,
⟨some 4,none,.mv (.cst (.vec [] .full))⟩,
⟨some 5,none,.mv (.cst (.int .i64 0))⟩])
(.seq (.seq (.reg [⟨some 15,none,.load (.tmp 2) 3 true⟩,
⟨some 16,none,.mv (.tmp 1)⟩,
⟨some 17,none,.call 16 [(.tmp 15),(.tmp 16)]⟩,
⟨some 6,none,.mv (.tmp 17)⟩])
(.seq (.reg [⟨some 18,none,.mv (.tmp 6)⟩,
⟨some 19,none,.bin .neq .plain (.tmp 18) (.cst (.int .i64 0))⟩])
(.cond (.tmp 19)
(.seq (.reg [⟨some 20,none,.mv (.tmp 6)⟩,
⟨some 4,none,.mv (.cst (.vec [] .full))⟩,
⟨some 5,none,.mv (.tmp 20)⟩])
(.ret))
(.skip))))
(.seq (.reg [⟨some 21,none,.mkM⟩,
⟨some 7,none,.mv (.tmp 21)⟩])
(.seq (.reg [⟨some 22,none,.mkM⟩,
⟨some 23,none,.bld [.nilmap,.nilmap,(.vec [] .full)] [(1,1,(.tmp 22))]⟩,
⟨some 24,none,.box (.tmp 23) true⟩,
⟨some 8,none,.mv (.tmp 24)⟩])
(.seq (.reg [⟨some 25,none,.mv (.tmp 1)⟩,
⟨some 26,none,.len .i (.tmp 25)⟩,
⟨some 27,none,.mks (.tmp 26) (.tmp 26) 1 8 false [(.int .i64 0)] true⟩,
⟨some 9,none,.mv (.tmp 27)⟩])
(.seq (.seq (.reg [⟨some 28,none,.fad (.tmp 2) 0⟩,
⟨some 29,none,.load (.tmp 28) 1 false⟩,
⟨some 30,none,.len .i (.tmp 29)⟩,
⟨some 31,none,.mv (.cst (.int .i64 0))⟩])
(.block 0
(.loop [1,2,7,8,9,29,30,31]
(.seq (.reg [⟨some 32,none,.bin .lss .plain (.tmp 31) (.tmp 30)⟩])
(.seq (.cond (.tmp 32)
(.skip)
(.brk 0))
(.seq (.block 1
(.seq (.reg [⟨some 33,none,.idxS (.tmp 29) (.tmp 31) 4⟩,
⟨some 34,none,.load (.tmp 33) 4 true⟩,
⟨some 11,none,.allocz [(.str ⟨#[]⟩),(.int .i64 0),(.int .i64 0),(.int .i64 0)] false⟩,
⟨none,none,.store (.tmp 11) (.tmp 34) 4⟩])
(.seq (.draw [(⟨some 35,none,.mv (.tmp 1)⟩,0,[]),
(⟨some 36,none,.fad (.tmp 11) 1⟩,1,[]),
(⟨some 37,none,.load (.tmp 36) 1 false⟩,2,[]),
(⟨some 38,none,.bin .sub .plain (.tmp 37) (.cst (.int .i64 1))⟩,3,[]),
(⟨some 39,none,.idxS (.tmp 35) (.tmp 38) 1⟩,4,[]),
(⟨some 40,none,.load (.tmp 39) 1 false⟩,5,[]),
(⟨some 41,none,.mv (.tmp 9)⟩,6,[]),
(⟨some 42,none,.fad (.tmp 11) 1⟩,7,[]),
(⟨some 43,none,.load (.tmp 42) 1 false⟩,8,[]),
(⟨some 44,none,.bin .sub .plain (.tmp 43) (.cst (.int .i64 1))⟩,9,[]),
(⟨some 45,none,.idxS (.tmp 41) (.tmp 44) 1⟩,10,[]),
(⟨some 46,none,.load (.tmp 45) 1 false⟩,11,[]),
(⟨some 47,none,.slc (.tmp 40) (some (.tmp 46)) none none 1⟩,12,[]),
(⟨some 12,none,.mv (.tmp 47)⟩,13,[])])
(.seq (.draw [(⟨some 48,none,.mv (.tmp 9)⟩,0,[]),
(⟨some 49,none,.fad (.tmp 11) 1⟩,1,[]),
(⟨some 50,none,.load (.tmp 49) 1 false⟩,2,[]),
(⟨some 51,none,.bin .sub .plain (.tmp 50) (.cst (.int .i64 1))⟩,3,[]),
(⟨some 52,none,.idxS (.tmp 48) (.tmp 51) 1⟩,4,[]),
(⟨some 53,none,.load (.tmp 52) 1 false⟩,5,[]),
(⟨some 54,none,.load (.tmp 11) 4 true⟩,6,[]),
(⟨some 55,none,.call 28 [(.tmp 54)]⟩,7,[2,5]),
(⟨some 56,none,.bin .add .plain (.tmp 53) (.tmp 55)⟩,8,[]),
(⟨some 57,none,.idxS (.tmp 48) (.tmp 51) 1⟩,9,[]),
(⟨none,none,.store (.tmp 57) (.tmp 56) 1⟩,10,[])])
(.seq (.reg [⟨some 58,none,.fad (.tmp 11) 3⟩,
⟨some 59,none,.load (.tmp 58) 1 false⟩,
⟨some 60,none,.bin .eql .plain (.tmp 59) (.cst (.int .i64 0))⟩])
(.cond (.tmp 60)
(.draw [(⟨some 61,none,.mv (.tmp 7)⟩,0,[]),
(⟨some 62,none,.fad (.tmp 11) 0⟩,1,[]),
(⟨some 63,none,.load (.tmp 62) 1 false⟩,2,[]),
(⟨some 64,none,.mv (.tmp 12)⟩,3,[]),
(⟨some 65,none,.idxS (.tmp 64) (.cst (.int .i64 0)) 1⟩,4,[]),
(⟨some 66,none,.load (.tmp 65) 1 false⟩,5,[]),
(⟨none,none,.mup .s (.tmp 61) (.tmp 63) (.tmp 66)⟩,6,[])])
(.draw [(⟨some 67,none,.mv (.tmp 8)⟩,0,[]),
(⟨some 68,none,.nilc (.tmp 67)⟩,1,[]),
(⟨some 69,none,.fad (.tmp 68) 1⟩,2,[]),
(⟨some 70,none,.load (.tmp 69) 1 false⟩,3,[]),
(⟨some 71,none,.fad (.tmp 11) 0⟩,4,[]),
(⟨some 72,none,.load (.tmp 71) 1 false⟩,5,[]),
(⟨some 73,none,.mv (.tmp 12)⟩,6,[]),
(⟨some 74,none,.fad (.tmp 11) 3⟩,7,[]),
(⟨some 75,none,.load (.tmp 74) 1 false⟩,8,[]),
(⟨some 76,none,.slc (.tmp 73) none (some (.tmp 75)) none 1⟩,9,[]),
(⟨some 77,none,.app (.cst (.vec [] .full)) (.tmp 76) 1 8 false true⟩,10,[3,5]),
(⟨none,none,.mup .s (.tmp 70) (.tmp 72) (.tmp 77)⟩,11,[])])))))))
(.reg [⟨some 78,none,.bin .add .plain (.tmp 31) (.cst (.int .i64 1))⟩,
⟨some 31,none,.mv (.tmp 78)⟩])))))))
(.seq (.seq (.reg [⟨some 79,none,.fad (.tmp 2) 1⟩,
⟨some 80,none,.load (.tmp 79) 1 false⟩,
⟨some 81,none,.len .i (.tmp 80)⟩,
⟨some 82,none,.mv (.cst (.int .i64 0))⟩])
(.block 2
(.loop [2,7,8,80,81,82]
(.seq (.reg [⟨some 83,none,.bin .lss .plain (.tmp 82) (.tmp 81)⟩])
(.seq (.cond (.tmp 83)
(.skip)
(.brk 2))
(.seq (.block 3
(.seq (.reg [⟨some 84,none,.idxS (.tmp 80) (.tmp 82) 2⟩,
⟨some 85,none,.load (.tmp 84) 2 true⟩,
⟨some 14,none,.allocz [(.str ⟨#[]⟩),(.int .i64 0)] false⟩,
⟨none,none,.store (.tmp 14) (.tmp 85) 2⟩])
(.draw [(⟨some 86,none,.mv (.tmp 8)⟩,0,[]),
(⟨some 87,none,.nilc (.tmp 86)⟩,1,[]),
(⟨some 88,none,.fad (.tmp 87) 1⟩,2,[]),
(⟨some 89,none,.load (.tmp 88) 1 false⟩,3,[]),
(⟨some 90,none,.fad (.tmp 14) 0⟩,4,[]),
(⟨some 91,none,.load (.tmp 90) 1 false⟩,5,[]),
(⟨some 92,none,.fad (.tmp 14) 1⟩,6,[]),
(⟨some 93,none,.load (.tmp 92) 1 false⟩,7,[]),
(⟨some 94,none,.mks (.tmp 93) (.tmp 93) 1 8 false [(.int .u64 0)] true⟩,8,[3,5]),
(⟨none,none,.mup .s (.tmp 89) (.tmp 91) (.tmp 94)⟩,9,[])])))
(.reg [⟨some 95,none,.bin .add .plain (.tmp 82) (.cst (.int .i64 1))⟩,
⟨some 82,none,.mv (.tmp 95)⟩])))))))
(.seq (.reg [⟨some 96,none,.mv (.tmp 8)⟩,
⟨some 97,none,.mv (.tmp 7)⟩,
⟨some 98,none,.call 29 [(.tmp 97)]⟩,
⟨some 99,none,.nilc (.tmp 96)⟩,
⟨some 100,none,.fad (.tmp 99) 0⟩,
⟨none,none,.store (.tmp 100) (.tmp 98) 1⟩])
(.seq (.reg [⟨some 101,none,.mv (.tmp 8)⟩,
⟨some 102,none,.fad (.tmp 2) 2⟩,
⟨some 103,none,.load (.tmp 102) 1 false⟩,
⟨some 104,none,.call 30 [(.tmp 101),(.tmp 103)]⟩])
(.seq (.reg [⟨some 105,none,.mv (.tmp 8)⟩,
⟨some 106,none,.nilc (.tmp 105)⟩,
⟨some 107,none,.fad (.tmp 106) 2⟩,
⟨some 108,none,.load (.tmp 107) 1 false⟩,
⟨some 4,none,.mv (.tmp 108)⟩,
⟨some 5,none,.mv (.cst (.int .i64 0))⟩])
(.ret))))))))))⟩
theorem tr13:trF Go.Proofs.Tryd.prog { obj:=[24,27,77,94,23],bare:=[],loops:=[[1,2,7,8,9,29,30,31],[2,7,8,80,81,82]],draws:=[(10,([0,0,2,6,15,31,0,0,128,384,960,1984,4095,8191],[(0,[]),(1,[]),(2,[]),(3,[]),(4,[]),(5,[]),(6,[]),(7,[]),(8,[]),(9,[]),(10,[]),(11,[]),(12,[]),(13,[])])),(11,([0,0,2,6,15,31,0,64,255,511,1023],[(0,[]),(1,[]),(2,[]),(3,[]),(4,[]),(5,[]),(6,[]),(7,[2,5]),(8,[]),(9,[]),(10,[])])),(13,([0,0,2,0,8,24,63],[(0,[]),(1,[]),(2,[]),(3,[]),(4,[]),(5,[]),(6,[])])),(14,([0,1,3,7,0,16,0,0,128,448,960,2047],[(0,[]),(1,[]),(2,[]),(3,[]),(4,[]),(5,[]),(6,[]),(7,[]),(8,[]),(9,[]),(10,[3,5]),(11,[])])),(19,([0,1,3,7,0,16,0,64,192,511],[(0,[]),(1,[]),(2,[]),(3,[]),(4,[]),(5,[]),(6,[]),(7,[]),(8,[3,5]),(9,[])]))],glob:=globs,fresh:=false } Go.Proofs.Tryd.f13=some ir13:=by kernel_rfl
def ir15:IFn:=⟨26,[.tmp 4 false],
.seq (.reg [⟨some 4,none,.mv (.cst (.bool false))⟩])
(.seq (.seq (.reg [⟨some 6,none,.mv (.tmp 0)⟩,
⟨some 7,none,.len .i (.tmp 6)⟩,
⟨some 8,none,.mv (.tmp 1)⟩,
⟨some 9,none,.len .i (.tmp 8)⟩,
⟨some 10,none,.bin .neq .plain (.tmp 7) (.tmp 9)⟩])
(.cond (.tmp 10)
(.seq (.reg [⟨some 4,none,.mv (.cst (.bool false))⟩])
(.ret))
(.skip)))
(.seq (.seq (.reg [⟨some 5,none,.mv (.cst (.int .i64 0))⟩])
(.block 0
(.loop [0,1,5]
(.seq (.seq (.reg [⟨some 11,none,.mv (.tmp 5)⟩,
⟨some 12,none,.mv (.tmp 0)⟩,
⟨some 13,none,.len .i (.tmp 12)⟩,
⟨some 14,none,.bin .lss .plain (.tmp 11) (.tmp 13)⟩])
(.cond (.tmp 14)
(.skip)
(.brk 0)))
(.seq (.block 1
(.seq (.draw [(⟨some 17,none,.mv (.tmp 0)⟩,0,[]),
(⟨some 18,none,.mv (.tmp 5)⟩,1,[]),
(⟨some 19,none,.idxS (.tmp 17) (.tmp 18) 1⟩,2,[]),
(⟨some 20,none,.load (.tmp 19) 1 false⟩,3,[]),
(⟨some 21,none,.mv (.tmp 1)⟩,4,[]),
(⟨some 22,none,.mv (.tmp 5)⟩,5,[]),
(⟨some 23,none,.idxS (.tmp 21) (.tmp 22) 1⟩,6,[]),
(⟨some 24,none,.load (.tmp 23) 1 false⟩,7,[]),
(⟨some 25,none,.bin .neq .plain (.tmp 20) (.tmp 24)⟩,8,[])])
(.cond (.tmp 25)
(.seq (.reg [⟨some 4,none,.mv (.cst (.bool false))⟩])
(.ret))
(.skip))))
(.reg [⟨some 15,none,.mv (.tmp 5)⟩,
⟨some 16,none,.bin .add .plain (.tmp 15) (.cst (.int .i64 1))⟩,
⟨some 5,none,.mv (.tmp 16)⟩]))))))
(.seq (.reg [⟨some 4,none,.mv (.cst (.bool true))⟩])
(.ret))))⟩
theorem tr15:trF Go.Proofs.Tryd.prog { obj:=[],bare:=[],loops:=[[0,1,5]],draws:=[(6,([0,0,3,7,0,0,48,112,255],[(0,[]),(1,[]),(2,[]),(3,[]),(4,[]),(5,[]),(6,[]),(7,[]),(8,[])]))],glob:=globs,fresh:=false } Go.Proofs.Tryd.f15=some ir15:=by kernel_rfl
def ir16:IFn:=⟨15,[.tmp 4 false],
.seq (.reg [⟨some 2,none,.box (.tmp 0) false⟩,
⟨some 4,none,.mv (.cst (.int .i64 0))⟩])
(.seq (.seq (.reg [⟨some 6,none,.load (.tmp 2) 3 true⟩,
⟨some 7,none,.call 35 [(.tmp 6)]⟩,
⟨some 5,none,.mv (.tmp 7)⟩])
(.seq (.reg [⟨some 8,none,.mv (.tmp 5)⟩,
⟨some 9,none,.bin .neq .plain (.tmp 8) (.cst (.int .i64 0))⟩])
(.cond (.tmp 9)
(.seq (.reg [⟨some 10,none,.mv (.tmp 5)⟩,
⟨some 4,none,.mv (.tmp 10)⟩])
(.ret))
(.skip))))
(.seq (.seq (.reg [⟨some 11,none,.load (.tmp 2) 3 true⟩,
⟨some 12,none,.mv (.tmp 1)⟩,
⟨some 13,none,.call 36 [(.tmp 11),(.tmp 12)]⟩,
⟨some 14,none,.un .not (.tmp 13)⟩])
(.cond (.tmp 14)
(.seq (.reg [⟨some 4,none,.mv (.cst (.int .i64 1))⟩])
(.ret))
(.skip)))
(.seq (.reg [⟨some 4,none,.mv (.cst (.int .i64 0))⟩])
(.ret))))⟩
theorem tr16:trF Go.Proofs.Tryd.prog { obj:=[],bare:=[],loops:=[],draws:=[],glob:=globs,fresh:=false } Go.Proofs.Tryd.f16=some ir16:=by kernel_rfl
def ir17:IFn:=⟨5,[.cell 2 5 true false],
.seq (.reg [⟨some 2,none,.allocz [(.int .i64 0),(.int .i64 0),(.int .u64 0),(.str ⟨#[]⟩),(.vec [] .full)] false⟩])
(.seq (.reg [⟨some 3,none,.mv (.tmp 0)⟩,
⟨some 4,none,.bld [(.int .i64 0),(.int .i64 0),(.int .u64 0),(.str ⟨#[]⟩),(.vec [] .any)] [(0,1,(.cst (.int .i64 2))),(3,1,(.tmp 3))]⟩,
⟨none,none,.store (.tmp 2) (.tmp 4) 5⟩])
(.ret))⟩
theorem tr17:trF Go.Proofs.Tryd.prog { obj:=[],bare:=[],loops:=[],draws:=[],glob:=globs,fresh:=false } Go.Proofs.Tryd.f17=some ir17:=by kernel_rfl
def ir18:IFn:=⟨12,[.cell 6 5 true false],
.seq (.reg [⟨some 4,none,.box (.tmp 1) false⟩,
⟨some 5,none,.box (.tmp 2) false⟩,
⟨some 6,none,.allocz [(.int .i64 0),(.int .i64 0),(.int .u64 0),(.str ⟨#[]⟩),(.vec [] .full)] false⟩])
(.seq (.reg [⟨some 7,none,.mv (.tmp 0)⟩,
⟨some 8,none,.load (.tmp 4) 5 true⟩,
⟨some 9,none,.load (.tmp 5) 5 true⟩,
⟨some 10,none,.bsl 2 5 true [(.int .i64 0),(.int .i64 0),(.int .u64 0),(.str ⟨#[]⟩),(.vec [] .any)] [(0,5,(.tmp 8)),(5,5,(.tmp 9))]⟩,
⟨some 11,none,.bld [(.int .i64 0),(.int .i64 0),(.int .u64 0),(.str ⟨#[]⟩),(.vec [] .any)] [(0,1,(.cst (.int .i64 4))),(1,1,(.tmp 7)),(4,1,(.tmp 10))]⟩,
⟨none,none,.store (.tmp 6) (.tmp 11) 5⟩])
(.ret))⟩
theorem tr18:trF Go.Proofs.Tryd.prog { obj:=[],bare:=[],loops:=[],draws:=[],glob:=globs,fresh:=false } Go.Proofs.Tryd.f18=some ir18:=by kernel_rfl
def ir19:IFn:=⟨12,[.cell 4 3 true false],
.seq (.reg [⟨some 4,none,.allocz [(.vec [] .full),(.vec [] .full),(.vec [] .full)] false⟩])
(.seq (.reg [⟨some 5,none,.mv (.tmp 0)⟩,
⟨some 6,none,.bld [(.str ⟨#[]⟩),(.int .i64 0),(.int .i64 0),(.int .i64 0)] [(0,1,(.cst (.str ⟨#[97]⟩))),(1,1,(.cst (.int .i64 1))),(2,1,(.tmp 5))]⟩,
⟨some 7,none,.mv (.tmp 0)⟩,
⟨some 8,none,.bld [(.str ⟨#[]⟩),(.int .i64 0),(.int .i64 0),(.int .i64 0)] [(0,1,(.cst (.str ⟨#[98]⟩))),(1,1,(.cst (.int .i64 2))),(2,1,(.tmp 7))]⟩,
⟨some 9,none,.bsl 2 4 true [(.str ⟨#[]⟩),(.int .i64 0),(.int .i64 0),(.int .i64 0)] [(0,4,(.tmp 6)),(4,4,(.tmp 8))]⟩,
⟨some 10,none,.mv (.tmp 1)⟩,
⟨some 11,none,.bld [(.vec [] .any),(.vec [] .any),(.vec [] .any)] [(0,1,(.tmp 9)),(2,1,(.tmp 10))]⟩,
⟨none,none,.store (.tmp 4) (.tmp 11) 3⟩])
(.ret))⟩
theorem tr19:trF Go.Proofs.Tryd.prog { obj:=[],bare:=[],loops:=[],draws:=[],glob:=globs,fresh:=false } Go.Proofs.Tryd.f19=some ir19:=by kernel_rfl
def ir20:IFn:=⟨6,[.cell 2 5 true false],
.seq (.reg [⟨some 1,none,.box (.tmp 0) false⟩,
⟨some 2,none,.allocz [(.int .i64 0),(.str ⟨#[]⟩),(.vec [] .full),(.vec [] .full),(.vec [] .full)] false⟩])
(.seq (.reg [⟨some 3,none,.load (.tmp 1) 5 true⟩,
⟨some 4,none,.bsl 1 5 true [(.int .i64 0),(.int .i64 0),(.int .u64 0),(.str ⟨#[]⟩),(.vec [] .any)] [(0,5,(.tmp 3))]⟩,
⟨some 5,none,.bld [(.int .i64 0),(.str ⟨#[]⟩),(.vec [] .any),(.vec [] .any),(.vec [] .any)] [(0,1,(.cst (.int .i64 5))),(2,1,(.tmp 4))]⟩,
⟨none,none,.store (.tmp 2) (.tmp 5) 5⟩])
(.ret))⟩
theorem tr20:trF Go.Proofs.Tryd.prog { obj:=[],bare:=[],loops:=[],draws:=[],glob:=globs,fresh:=false } Go.Proofs.Tryd.f20=some ir20:=by kernel_rfl
def ir21:IFn:=⟨5,[.cell 2 5 true false],
.seq (.reg [⟨some 2,none,.allocz [(.int .i64 0),(.int .i64 0),(.int .u64 0),(.str ⟨#[]⟩),(.vec [] .full)] false⟩])
(.seq (.reg [⟨some 3,none,.mv (.tmp 0)⟩,
⟨some 4,none,.bld [(.int .i64 0),(.int .i64 0),(.int .u64 0),(.str ⟨#[]⟩),(.vec [] .any)] [(0,1,(.cst (.int .i64 1))),(2,1,(.tmp 3))]⟩,
⟨none,none,.store (.tmp 2) (.tmp 4) 5⟩])
(.ret))⟩
theorem tr21:trF Go.Proofs.Tryd.prog { obj:=[],bare:=[],loops:=[],draws:=[],glob:=globs,fresh:=false } Go.Proofs.Tryd.f21=some ir21:=by kernel_rfl
def ir22:IFn:=⟨6,[.cell 2 5 true false],
.seq (.reg [⟨some 1,none,.box (.tmp 0) false⟩,
⟨some 2,none,.allocz [(.int .i64 0),(.str ⟨#[]⟩),(.vec [] .full),(.vec [] .full),(.vec [] .full)] false⟩])
(.seq (.reg [⟨some 3,none,.load (.tmp 1) 5 true⟩,
⟨some 4,none,.bsl 1 5 true [(.int .i64 0),(.int .i64 0),(.int .u64 0),(.str ⟨#[]⟩),(.vec [] .any)] [(0,5,(.tmp 3))]⟩,
⟨some 5,none,.bld [(.int .i64 0),(.str ⟨#[]⟩),(.vec [] .any),(.vec [] .any),(.vec [] .any)] [(0,1,(.cst (.int .i64 1))),(1,1,(.cst (.str ⟨#[99,104,111,115,101,110]⟩))),(2,1,(.tmp 4))]⟩,
⟨none,none,.store (.tmp 2) (.tmp 5) 5⟩])
(.ret))⟩
theorem tr22:trF Go.Proofs.Tryd.prog { obj:=[],bare:=[],loops:=[],draws:=[],glob:=globs,fresh:=false } Go.Proofs.Tryd.f22=some ir22:=by kernel_rfl
def ir23:IFn:=⟨9,[.cell 4 5 true false],
.seq (.reg [⟨some 2,none,.box (.tmp 0) false⟩,
⟨some 3,none,.box (.tmp 1) false⟩,
⟨some 4,none,.allocz [(.int .i64 0),(.str ⟨#[]⟩),(.vec [] .full),(.vec [] .full),(.vec [] .full)] false⟩])
(.seq (.reg [⟨some 5,none,.load (.tmp 2) 5 true⟩,
⟨some 6,none,.load (.tmp 3) 5 true⟩,
⟨some 7,none,.call 18 [(.cst (.int .i64 5)),(.tmp 5),(.tmp 6)]⟩,
⟨some 8,none,.call 20 [(.tmp 7)]⟩,
⟨none,none,.store (.tmp 4) (.tmp 8) 5⟩])
(.ret))⟩
theorem tr23:trF Go.Proofs.Tryd.prog { obj:=[],bare:=[],loops:=[],draws:=[],glob:=globs,fresh:=false } Go.Proofs.Tryd.f23=some ir23:=by kernel_rfl
def ir24:IFn:=⟨8,[.tmp 2 false,.tmp 3 false],
.seq (.reg [⟨some 1,none,.box (.tmp 0) false⟩,
⟨some 2,none,.mv (.cst (.int .i64 0))⟩,
⟨some 3,none,.mv (.cst (.int .i64 0))⟩])
(.seq (.reg [⟨some 4,none,.load (.tmp 1) 3 true⟩,
⟨some 5,none,.call 37 [(.tmp 4)]⟩,
⟨some 6,none,.ext (.tmp 5) 0⟩,
⟨some 7,none,.ext (.tmp 5) 1⟩,
⟨some 2,none,.mv (.tmp 6)⟩,
⟨some 3,none,.mv (.tmp 7)⟩])
(.ret))⟩
theorem tr24:trF Go.Proofs.Tryd.prog { obj:=[],bare:=[],loops:=[],draws:=[],glob:=globs,fresh:=false } Go.Proofs.Tryd.f24=some ir24:=by kernel_rfl
def ir25:IFn:=⟨91,[.tmp 4 false],
.seq (.reg [⟨some 2,none,.box (.tmp 0) false⟩,
⟨some 4,none,.mv (.cst (.bool false))⟩])
(.seq (.reg [⟨some 11,none,.mv (.tmp 1)⟩,
⟨some 12,none,.len .i (.tmp 11)⟩,
⟨some 13,none,.mks (.tmp 12) (.tmp 12) 1 8 false [(.int .i64 0)] true⟩,
⟨some 5,none,.mv (.tmp 13)⟩])
(.seq (.seq (.reg [⟨some 6,none,.mv (.cst (.int .i64 0))⟩])
(.block 0
(.loop [1,2,5,6]
(.seq (.seq (.reg [⟨some 14,none,.mv (.tmp 6)⟩,
⟨some 15,none,.fad (.tmp 2) 0⟩,
⟨some 16,none,.load (.tmp 15) 1 false⟩,
⟨some 17,none,.len .i (.tmp 16)⟩,
⟨some 18,none,.bin .lss .plain (.tmp 14) (.tmp 17)⟩])
(.cond (.tmp 18)
(.skip)
(.brk 0)))
(.seq (.block 1
(.seq (.reg [⟨some 21,none,.fad (.tmp 2) 0⟩,
⟨some 22,none,.load (.tmp 21) 1 false⟩,
⟨some 23,none,.mv (.tmp 6)⟩,
⟨some 24,none,.idxS (.tmp 22) (.tmp 23) 4⟩,
⟨some 25,none,.load (.tmp 24) 4 true⟩,
⟨some 7,none,.allocz [(.str ⟨#[]⟩),(.int .i64 0),(.int .i64 0),(.int .i64 0)] false⟩,
⟨none,none,.store (.tmp 7) (.tmp 25) 4⟩])
(.seq (.seq (.reg [⟨some 26,none,.fad (.tmp 7) 1⟩,
⟨some 27,none,.load (.tmp 26) 1 false⟩,
⟨some 28,none,.mv (.tmp 1)⟩,
⟨some 29,none,.len .i (.tmp 28)⟩,
⟨some 30,none,.bin .gtr .plain (.tmp 27) (.tmp 29)⟩])
(.cond (.tmp 30)
(.seq (.reg [⟨some 4,none,.mv (.cst (.bool false))⟩])
(.ret))
(.skip)))
(.seq (.reg [⟨some 8,none,.mv (.cst (.int .i64 0))⟩])
(.block 2
(.loop [1,2,5,6,7,8]
(.seq (.seq (.reg [⟨some 31,none,.mv (.tmp 8)⟩,
⟨some 32,none,.load (.tmp 7) 4 true⟩,
⟨some 33,none,.call 32 [(.tmp 32)]⟩,
⟨some 34,none,.bin .lss .plain (.tmp 31) (.tmp 33)⟩])
(.cond (.tmp 34)
(.skip)
(.brk 2)))
(.seq (.block 3
(.seq (.reg [⟨some 37,none,.mv (.tmp 1)⟩,
⟨some 38,none,.fad (.tmp 7) 1⟩,
⟨some 39,none,.load (.tmp 38) 1 false⟩,
⟨some 40,none,.bin .sub .plain (.tmp 39) (.cst (.int .i64 1))⟩,
⟨some 41,none,.idxS (.tmp 37) (.tmp 40) 1⟩,
⟨some 42,none,.load (.tmp 41) 1 false⟩,
⟨some 9,none,.mv (.tmp 42)⟩])
(.seq (.seq (.draw [(⟨some 43,none,.mv (.tmp 5)⟩,0,[]),
(⟨some 44,none,.fad (.tmp 7) 1⟩,1,[]),
(⟨some 45,none,.load (.tmp 44) 1 false⟩,2,[]),
(⟨some 46,none,.bin .sub .plain (.tmp 45) (.cst (.int .i64 1))⟩,3,[]),
(⟨some 47,none,.idxS (.tmp 43) (.tmp 46) 1⟩,4,[]),
(⟨some 48,none,.load (.tmp 47) 1 false⟩,5,[]),
(⟨some 49,none,.mv (.tmp 9)⟩,6,[]),
(⟨some 50,none,.len .i (.tmp 49)⟩,7,[]),
(⟨some 51,none,.bin .geq .plain (.tmp 48) (.tmp 50)⟩,8,[]),
(⟨some 52,none,.mv (.tmp 51)⟩,9,[]),
(⟨some 53,some (52,false),.mv (.tmp 9)⟩,10,[]),
(⟨some 54,some (52,false),.mv (.tmp 5)⟩,11,[]),
(⟨some 55,some (52,false),.fad (.tmp 7) 1⟩,12,[]),
(⟨some 56,some (52,false),.load (.tmp 55) 1 false⟩,13,[]),
(⟨some 57,some (52,false),.bin .sub .plain (.tmp 56) (.cst (.int .i64 1))⟩,14,[]),
(⟨some 58,some (52,false),.idxS (.tmp 54) (.tmp 57) 1⟩,15,[]),
(⟨some 59,some (52,false),.load (.tmp 58) 1 false⟩,16,[]),
(⟨some 60,some (52,false),.idxS (.tmp 53) (.tmp 59) 1⟩,17,[]),
(⟨some 61,some (52,false),.load (.tmp 60) 1 false⟩,18,[]),
(⟨some 63,some (52,false),.fad (.tmp 7) 2⟩,20,[]),
(⟨some 64,some (52,false),.load (.tmp 63) 1 false⟩,21,[]),
(⟨some 62,some (52,false),.call 38 [(.tmp 61)]⟩,19,[20]),
(⟨some 65,some (52,false),.bin .gtr .plain (.tmp 62) (.tmp 64)⟩,22,[]),
(⟨some 66,none,.pick (.tmp 52) (.cst (.bool true)) (.tmp 65)⟩,23,[])])
(.cond (.tmp 66)
(.seq (.reg [⟨some 4,none,.mv (.cst (.bool false))⟩])
(.ret))
(.skip)))
(.reg [⟨some 67,none,.mv (.tmp 5)⟩,
⟨some 68,none,.fad (.tmp 7) 1⟩,
⟨some 69,none,.load (.tmp 68) 1 false⟩,
⟨some 70,none,.bin .sub .plain (.tmp 69) (.cst (.int .i64 1))⟩,
⟨some 71,none,.idxS (.tmp 67) (.tmp 70) 1⟩,
⟨some 72,none,.load (.tmp 71) 1 false⟩,
⟨some 73,none,.bin .add .plain (.tmp 72) (.cst (.int .i64 1))⟩,
⟨some 74,none,.idxS (.tmp 67) (.tmp 70) 1⟩,
⟨none,none,.store (.tmp 74) (.tmp 73) 1⟩]))))
(.reg [⟨some 35,none,.mv (.tmp 8)⟩,
⟨some 36,none,.bin .add .plain (.tmp 35) (.cst (.int .i64 1))⟩,
⟨some 8,none,.mv (.tmp 36)⟩])))))))))
(.reg [⟨some 19,none,.mv (.tmp 6)⟩,
⟨some 20,none,.bin .add .plain (.tmp 19) (.cst (.int .i64 1))⟩,
⟨some 6,none,.mv (.tmp 20)⟩]))))))
(.seq (.seq (.reg [⟨some 10,none,.mv (.cst (.int .i64 0))⟩])
(.block 4
(.loop [1,5,10]
(.seq (.seq (.reg [⟨some 75,none,.mv (.tmp 10)⟩,
⟨some 76,none,.mv (.tmp 1)⟩,
⟨some 77,none,.len .i (.tmp 76)⟩,
⟨some 78,none,.bin .lss .plain (.tmp 75) (.tmp 77)⟩])
(.cond (.tmp 78)
(.skip)
(.brk 4)))
(.seq (.block 5
(.seq (.draw [(⟨some 81,none,.mv (.tmp 5)⟩,0,[]),
(⟨some 82,none,.mv (.tmp 10)⟩,1,[]),
(⟨some 83,none,.idxS (.tmp 81) (.tmp 82) 1⟩,2,[]),
(⟨some 84,none,.load (.tmp 83) 1 false⟩,3,[]),
(⟨some 85,none,.mv (.tmp 1)⟩,4,[]),
(⟨some 86,none,.mv (.tmp 10)⟩,5,[]),
(⟨some 87,none,.idxS (.tmp 85) (.tmp 86) 1⟩,6,[]),
(⟨some 88,none,.load (.tmp 87) 1 false⟩,7,[]),
(⟨some 89,none,.len .i (.tmp 88)⟩,8,[]),
(⟨some 90,none,.bin .neq .plain (.tmp 84) (.tmp 89)⟩,9,[])])
(.cond (.tmp 90)
(.seq (.reg [⟨some 4,none,.mv (.cst (.bool false))⟩])
(.ret))
(.skip))))
(.reg [⟨some 79,none,.mv (.tmp 10)⟩,
⟨some 80,none,.bin .add .plain (.tmp 79) (.cst (.int .i64 1))⟩,
⟨some 10,none,.mv (.tmp 80)⟩]))))))
(.seq (.reg [⟨some 4,none,.mv (.cst (.bool true))⟩])
(.ret)))))⟩
theorem tr25:trF Go.Proofs.Tryd.prog { obj:=[13],bare:=[],loops:=[[1,2,5,6],[1,2,5,6,7,8],[1,5,10]],draws:=[(12,([0,0,2,6,15,31,0,64,255,511,1023,1023,1023,5119,13311,31743,64511,131071,262143,524287,1023,1049599,4194303,8388607],[(0,[]),(1,[]),(2,[]),(3,[]),(4,[]),(5,[]),(6,[]),(7,[]),(8,[]),(9,[]),(10,[]),(11,[]),(12,[]),(13,[]),(14,[]),(15,[]),(16,[]),(17,[]),(18,[]),(20,[]),(21,[]),(19,[20]),(22,[]),(23,[])])),(18,([0,0,3,7,0,0,48,112,240,511],[(0,[]),(1,[]),(2,[]),(3,[]),(4,[]),(5,[]),(6,[]),(7,[]),(8,[]),(9,[])]))],glob:=globs,fresh:=false } Go.Proofs.Tryd.f25=some ir25:=by kernel_rfl
def ir26:IFn:=⟨22,[.tmp 4 false],
.seq (.reg [⟨some 2,none,.box (.tmp 0) false⟩,
⟨some 4,none,.mv (.cst (.bool false))⟩])
(.seq (.reg [⟨some 5,none,.fad (.tmp 2) 0⟩,
⟨some 6,none,.load (.tmp 5) 1 false⟩,
⟨some 7,none,.len .i (.tmp 6)⟩,
⟨some 8,none,.bin .leq .plain (.tmp 7) (.cst (.int .i64 40))⟩,
⟨some 9,none,.mv (.tmp 8)⟩,
⟨some 10,some (9,true),.fad (.tmp 2) 1⟩,
⟨some 11,some (9,true),.load (.tmp 10) 1 false⟩,
⟨some 12,some (9,true),.len .i (.tmp 11)⟩,
⟨some 13,some (9,true),.bin .leq .plain (.tmp 12) (.cst (.int .i64 40))⟩,
⟨some 14,none,.pick (.tmp 9) (.tmp 13) (.cst (.bool false))⟩,
⟨some 15,none,.mv (.tmp 14)⟩,
⟨some 16,some (15,true),.fad (.tmp 2) 2⟩,
⟨some 17,some (15,true),.load (.tmp 16) 1 false⟩,
⟨some 18,some (15,true),.mv (.tmp 1)⟩,
⟨some 19,some (15,true),.call 39 [(.tmp 17),(.cst (.int .i64 1)),(.tmp 18)]⟩,
⟨some 20,some (15,true),.bin .geq .plain (.tmp 19) (.cst (.int .i64 0))⟩,
⟨some 21,none,.pick (.tmp 15) (.tmp 20) (.cst (.bool false))⟩,
⟨some 4,none,.mv (.tmp 21)⟩])
(.ret))⟩
theorem tr26:trF Go.Proofs.Tryd.prog { obj:=[],bare:=[],loops:=[],draws:=[],glob:=globs,fresh:=false } Go.Proofs.Tryd.f26=some ir26:=by kernel_rfl
def ir27:IFn:=⟨88,[.tmp 2 false],
.seq (.reg [⟨some 1,none,.box (.tmp 0) false⟩,
⟨some 2,none,.mv (.cst (.bool false))⟩])
(.seq (.seq (.reg [⟨some 3,none,.mv (.cst (.int .i64 0))⟩])
(.block 0
(.loop [1,3]
(.seq (.seq (.reg [⟨some 7,none,.mv (.tmp 3)⟩,
⟨some 8,none,.fad (.tmp 1) 0⟩,
⟨some 9,none,.load (.tmp 8) 1 false⟩,
⟨some 10,none,.len .i (.tmp 9)⟩,
⟨some 11,none,.bin .lss .plain (.tmp 7) (.tmp 10)⟩])
(.cond (.tmp 11)
(.skip)
(.brk 0)))
(.seq (.block 1
(.seq (.reg [⟨some 14,none,.fad (.tmp 1) 0⟩,
⟨some 15,none,.load (.tmp 14) 1 false⟩,
⟨some 16,none,.mv (.tmp 3)⟩,
⟨some 17,none,.idxS (.tmp 15) (.tmp 16) 4⟩,
⟨some 18,none,.load (.tmp 17) 4 true⟩,
⟨some 4,none,.allocz [(.str ⟨#[]⟩),(.int .i64 0),(.int .i64 0),(.int .i64 0)] false⟩,
⟨none,none,.store (.tmp 4) (.tmp 18) 4⟩])
(.seq (.reg [⟨some 19,none,.fad (.tmp 4) 0⟩,
⟨some 20,none,.load (.tmp 19) 1 false⟩,
⟨some 21,none,.call 40 [(.tmp 20)]⟩,
⟨some 22,none,.un .not (.tmp 21)⟩,
⟨some 23,none,.mv (.tmp 22)⟩,
⟨some 24,some (23,false),.fad (.tmp 4) 1⟩,
⟨some 25,some (23,false),.load (.tmp 24) 1 false⟩,
⟨some 26,some (23,false),.bin .lss .plain (.tmp 25) (.cst (.int .i64 1))⟩,
⟨some 27,none,.pick (.tmp 23) (.cst (.bool true)) (.tmp 26)⟩,
⟨some 28,none,.mv (.tmp 27)⟩,
⟨some 29,some (28,false),.fad (.tmp 4) 1⟩,
⟨some 30,some (28,false),.load (.tmp 29) 1 false⟩,
⟨some 31,some (28,false),.bin .gtr .plain (.tmp 30) (.cst (.int .i64 13))⟩,
⟨some 32,none,.pick (.tmp 28) (.cst (.bool true)) (.tmp 31)⟩,
⟨some 33,none,.mv (.tmp 32)⟩,
⟨some 34,some (33,false),.fad (.tmp 4) 2⟩,
⟨some 35,some (33,false),.load (.tmp 34) 1 false⟩,
⟨some 36,some (33,false),.bin .lss .plain (.tmp 35) (.cst (.int .i64 1))⟩,
⟨some 37,none,.pick (.tmp 33) (.cst (.bool true)) (.tmp 36)⟩,
⟨some 38,none,.mv (.tmp 37)⟩,
⟨some 39,some (38,false),.fad (.tmp 4) 2⟩,
⟨some 40,some (38,false),.load (.tmp 39) 1 false⟩,
⟨some 41,some (38,false),.bin .gtr .plain (.tmp 40) (.cst (.int .i64 16))⟩,
⟨some 42,none,.pick (.tmp 38) (.cst (.bool true)) (.tmp 41)⟩,
⟨some 43,none,.mv (.tmp 42)⟩,
⟨some 44,some (43,false),.fad (.tmp 4) 3⟩,
⟨some 45,some (43,false),.load (.tmp 44) 1 false⟩,
⟨some 46,some (43,false),.bin .lss .plain (.tmp 45) (.cst (.int .i64 0))⟩,
⟨some 47,none,.pick (.tmp 43) (.cst (.bool true)) (.tmp 46)⟩,
⟨some 48,none,.mv (.tmp 47)⟩,
⟨some 49,some (48,false),.fad (.tmp 4) 3⟩,
⟨some 50,some (48,false),.load (.tmp 49) 1 false⟩,
⟨some 51,some (48,false),.bin .gtr .plain (.tmp 50) (.cst (.int .i64 64))⟩,
⟨some 52,none,.pick (.tmp 48) (.cst (.bool true)) (.tmp 51)⟩])
(.cond (.tmp 52)
(.seq (.reg [⟨some 2,none,.mv (.cst (.bool false))⟩])
(.ret))
(.skip)))))
(.reg [⟨some 12,none,.mv (.tmp 3)⟩,
⟨some 13,none,.bin .add .plain (.tmp 12) (.cst (.int .i64 1))⟩,
⟨some 3,none,.mv (.tmp 13)⟩]))))))
(.seq (.seq (.reg [⟨some 5,none,.mv (.cst (.int .i64 0))⟩])
(.block 2
(.loop [1,5]
(.seq (.seq (.reg [⟨some 53,none,.mv (.tmp 5)⟩,
⟨some 54,none,.fad (.tmp 1) 1⟩,
⟨some 55,none,.load (.tmp 54) 1 false⟩,
⟨some 56,none,.len .i (.tmp 55)⟩,
⟨some 57,none,.bin .lss .plain (.tmp 53) (.tmp 56)⟩])
(.cond (.tmp 57)
(.skip)
(.brk 2)))
(.seq (.block 3
(.seq (.reg [⟨some 60,none,.fad (.tmp 1) 1⟩,
⟨some 61,none,.load (.tmp 60) 1 false⟩,
⟨some 62,none,.mv (.tmp 5)⟩,
⟨some 63,none,.idxS (.tmp 61) (.tmp 62) 2⟩,
⟨some 64,none,.load (.tmp 63) 2 true⟩,
⟨some 6,none,.allocz [(.str ⟨#[]⟩),(.int .i64 0)] false⟩,
⟨none,none,.store (.tmp 6) (.tmp 64) 2⟩])
(.seq (.reg [⟨some 65,none,.fad (.tmp 6) 0⟩,
⟨some 66,none,.load (.tmp 65) 1 false⟩,
⟨some 67,none,.call 40 [(.tmp 66)]⟩,
⟨some 68,none,.un .not (.tmp 67)⟩,
⟨some 69,none,.mv (.tmp 68)⟩,
⟨some 70,some (69,false),.fad (.tmp 6) 1⟩,
⟨some 71,some (69,false),.load (.tmp 70) 1 false⟩,
⟨some 72,some (69,false),.bin .lss .plain (.tmp 71) (.cst (.int .i64 1))⟩,
⟨some 73,none,.pick (.tmp 69) (.cst (.bool true)) (.tmp 72)⟩,
⟨some 74,none,.mv (.tmp 73)⟩,
⟨some 75,some (74,false),.fad (.tmp 6) 1⟩,
⟨some 76,some (74,false),.load (.tmp 75) 1 false⟩,
⟨some 77,some (74,false),.bin .gtr .plain (.tmp 76) (.cst (.int .i64 64))⟩,
⟨some 78,none,.pick (.tmp 74) (.cst (.bool true)) (.tmp 77)⟩])
(.cond (.tmp 78)
(.seq (.reg [⟨some 2,none,.mv (.cst (.bool false))⟩])
(.ret))
(.skip)))))
(.reg [⟨some 58,none,.mv (.tmp 5)⟩,
⟨some 59,none,.bin .add .plain (.tmp 58) (.cst (.int .i64 1))⟩,
⟨some 5,none,.mv (.tmp 59)⟩]))))))
(.seq (.reg [⟨some 79,none,.fad (.tmp 1) 2⟩,
⟨some 80,none,.load (.tmp 79) 1 false⟩,
⟨some 81,none,.call 41 [(.tmp 80),(.cst (.int .i64 1))]⟩,
⟨some 82,none,.mv (.tmp 81)⟩,
⟨some 83,some (82,true),.load (.tmp 1) 3 true⟩,
⟨some 84,some (82,true),.call 42 [(.tmp 83)]⟩,
⟨some 85,some (82,true),.len .s (.tmp 84)⟩,
⟨some 86,some (82,true),.bin .leq .plain (.tmp 85) (.cst (.int .i64 20000))⟩,
⟨some 87,none,.pick (.tmp 82) (.tmp 86) (.cst (.bool false))⟩,
⟨some 2,none,.mv (.tmp 87)⟩])
(.ret))))⟩
theorem tr27:trF Go.Proofs.Tryd.prog { obj:=[],bare:=[],loops:=[[1,3],[1,5]],draws:=[],glob:=globs,fresh:=false } Go.Proofs.Tryd.f27=some ir27:=by kernel_rfl
def ir28:IFn:=⟨6,[.tmp 2 false],
.seq (.reg [⟨some 1,none,.box (.tmp 0) false⟩,
⟨some 2,none,.mv (.cst (.int .i64 0))⟩])
(.seq (.reg [⟨some 3,none,.fad (.tmp 1) 3⟩,
⟨some 4,none,.load (.tmp 3) 1 false⟩,
⟨some 5,none,.max [(.tmp 4),(.cst (.int .i64 1))]⟩,
⟨some 2,none,.mv (.tmp 5)⟩])
(.ret))⟩
theorem tr28:trF Go.Proofs.Tryd.prog { obj:=[],bare:=[],loops:=[],draws:=[],glob:=globs,fresh:=false } Go.Proofs.Tryd.f28=some ir28:=by kernel_rfl
def ir30:IFn:=⟨94,[],
.seq (.reg [⟨some 8,none,.mv (.tmp 1)⟩,
⟨some 9,none,.len .i (.tmp 8)⟩,
⟨some 10,none,.mv (.cst (.int .i64 0))⟩])
(.block 0
(.loop [0,8,9,10]
(.seq (.reg [⟨some 11,none,.bin .lss .plain (.tmp 10) (.tmp 9)⟩])
(.seq (.cond (.tmp 11)
(.skip)
(.brk 0))
(.seq (.block 1
(.seq (.reg [⟨some 12,none,.idxS (.tmp 8) (.tmp 10) 5⟩,
⟨some 13,none,.load (.tmp 12) 5 true⟩,
⟨some 5,none,.allocz [(.int .i64 0),(.str ⟨#[]⟩),(.vec [] .full),(.vec [] .full),(.vec [] .full)] false⟩,
⟨none,none,.store (.tmp 5) (.tmp 13) 5⟩])
(.seq (.reg [⟨some 14,none,.fad (.tmp 5) 0⟩,
⟨some 15,none,.load (.tmp 14) 1 false⟩])
(.block 2
(.seq (.reg [⟨some 17,none,.bin .eql .plain (.tmp 15) (.cst (.int .i64 1))⟩,
⟨some 16,none,.mv (.tmp 17)⟩])
(.cond (.tmp 16)
(.draw [(⟨some 18,none,.mv (.tmp 0)⟩,0,[]),
(⟨some 19,none,.nilc (.tmp 18)⟩,1,[]),
(⟨some 20,none,.fad (.tmp 19) 0⟩,2,[]),
(⟨some 21,none,.load (.tmp 20) 1 false⟩,3,[]),
(⟨some 22,none,.fad (.tmp 5) 1⟩,4,[]),
(⟨some 23,none,.load (.tmp 22) 1 false⟩,5,[]),
(⟨some 24,none,.mv (.tmp 0)⟩,6,[]),
(⟨some 25,none,.fad (.tmp 5) 2⟩,7,[]),
(⟨some 26,none,.load (.tmp 25) 1 false⟩,8,[]),
(⟨some 27,none,.idxS (.tmp 26) (.cst (.int .i64 0)) 5⟩,9,[]),
(⟨some 28,none,.load (.tmp 27) 5 true⟩,10,[]),
(⟨some 29,none,.call 44 [(.tmp 24),(.tmp 28)]⟩,11,[3,5]),
(⟨none,none,.mup .s (.tmp 21) (.tmp 23) (.tmp 29)⟩,12,[])])
(.seq (.reg [⟨some 31,none,.bin .eql .plain (.tmp 15) (.cst (.int .i64 2))⟩,
⟨some 30,none,.mv (.tmp 31)⟩])
(.cond (.tmp 30)
(.seq (.draw [(⟨some 32,none,.mv (.tmp 0)⟩,0,[]),
(⟨some 33,none,.fad (.tmp 5) 2⟩,1,[]),
(⟨some 34,none,.load (.tmp 33) 1 false⟩,2,[]),
(⟨some 35,none,.idxS (.tmp 34) (.cst (.int .i64 0)) 5⟩,3,[]),
(⟨some 36,none,.load (.tmp 35) 5 true⟩,4,[]),
(⟨some 38,none,.mv (.tmp 0)⟩,6,[]),
(⟨some 39,none,.fad (.tmp 5) 2⟩,7,[]),
(⟨some 40,none,.load (.tmp 39) 1 false⟩,8,[]),
(⟨some 41,none,.idxS (.tmp 40) (.cst (.int .i64 1)) 5⟩,9,[]),
(⟨some 42,none,.load (.tmp 41) 5 true⟩,10,[]),
(⟨some 37,none,.call 44 [(.tmp 32),(.tmp 36)]⟩,5,[7,9]),
(⟨some 43,none,.call 44 [(.tmp 38),(.tmp 42)]⟩,11,[]),
(⟨some 6,none,.mv (.tmp 37)⟩,12,[]),
(⟨some 7,none,.mv (.tmp 43)⟩,13,[])])
(.draw [(⟨some 44,none,.mv (.tmp 0)⟩,0,[]),
(⟨some 45,none,.nilc (.tmp 44)⟩,1,[]),
(⟨some 46,none,.fad (.tmp 45) 1⟩,2,[]),
(⟨some 47,none,.load (.tmp 46) 1 false⟩,3,[]),
(⟨some 48,none,.fad (.tmp 5) 1⟩,4,[]),
(⟨some 49,none,.load (.tmp 48) 1 false⟩,5,[]),
(⟨some 50,none,.lkp .s (.tmp 47) (.tmp 49) (.vec [] .full) false⟩,6,[]),
(⟨some 51,none,.mv (.tmp 6)⟩,7,[]),
(⟨some 52,none,.mv (.tmp 7)⟩,8,[]),
(⟨some 53,none,.idxS (.tmp 50) (.tmp 51) 1⟩,9,[]),
(⟨none,none,.store (.tmp 53) (.tmp 52) 1⟩,10,[])]))
(.seq (.reg [⟨some 55,none,.bin .eql .plain (.tmp 15) (.cst (.int .i64 3))⟩,
⟨some 54,none,.mv (.tmp 55)⟩])
(.cond (.tmp 54)
(.seq (.reg [⟨some 56,none,.mv (.tmp 0)⟩,
⟨some 57,none,.fad (.tmp 5) 2⟩,
⟨some 58,none,.load (.tmp 57) 1 false⟩,
⟨some 59,none,.idxS (.tmp 58) (.cst (.int .i64 0)) 5⟩,
⟨some 60,none,.load (.tmp 59) 5 true⟩,
⟨some 61,none,.call 44 [(.tmp 56),(.tmp 60)]⟩,
⟨some 62,none,.bin .eql .plain (.tmp 61) (.cst (.int .u64 1))⟩])
(.cond (.tmp 62)
(.reg [⟨some 63,none,.mv (.tmp 0)⟩,
⟨some 64,none,.fad (.tmp 5) 3⟩,
⟨some 65,none,.load (.tmp 64) 1 false⟩,
⟨some 66,none,.call 30 [(.tmp 63),(.tmp 65)]⟩])
(.reg [⟨some 67,none,.mv (.tmp 0)⟩,
⟨some 68,none,.fad (.tmp 5) 4⟩,
⟨some 69,none,.load (.tmp 68) 1 false⟩,
⟨some 70,none,.call 30 [(.tmp 67),(.tmp 69)]⟩])))
(.seq (.reg [⟨some 72,none,.bin .eql .plain (.tmp 15) (.cst (.int .i64 4))⟩,
⟨some 71,none,.mv (.tmp 72)⟩])
(.cond (.tmp 71)
(.reg [⟨some 73,none,.mv (.tmp 0)⟩,
⟨some 74,none,.load (.tmp 5) 5 true⟩,
⟨some 75,none,.call 45 [(.tmp 73),(.tmp 74)]⟩])
(.seq (.reg [⟨some 77,none,.bin .eql .plain (.tmp 15) (.cst (.int .i64 5))⟩,
⟨some 76,none,.mv (.tmp 77)⟩])
(.cond (.tmp 76)
(.draw [(⟨some 78,none,.mv (.tmp 0)⟩,0,[]),
(⟨some 79,none,.mv (.tmp 0)⟩,1,[]),
(⟨some 80,none,.nilc (.tmp 79)⟩,2,[]),
(⟨some 81,none,.fad (.tmp 80) 2⟩,3,[]),
(⟨some 82,none,.load (.tmp 81) 1 false⟩,4,[]),
(⟨some 83,none,.mv (.tmp 0)⟩,5,[]),
(⟨some 84,none,.fad (.tmp 5) 2⟩,6,[]),
(⟨some 85,none,.load (.tmp 84) 1 false⟩,7,[]),
(⟨some 86,none,.idxS (.tmp 85) (.cst (.int .i64 0)) 5⟩,8,[]),
(⟨some 87,none,.load (.tmp 86) 5 true⟩,9,[]),
(⟨some 88,none,.call 44 [(.tmp 83),(.tmp 87)]⟩,10,[4]),
(⟨some 89,none,.bsl 1 1 false [(.int .u64 0)] [(0,1,(.tmp 88))]⟩,11,[]),
(⟨some 90,none,.app (.tmp 82) (.tmp 89) 1 8 false true⟩,12,[]),
(⟨some 91,none,.nilc (.tmp 78)⟩,13,[]),
(⟨some 92,none,.fad (.tmp 91) 2⟩,14,[]),
(⟨none,none,.store (.tmp 92) (.tmp 90) 1⟩,15,[])])
(.skip)))))))))))))))
(.reg [⟨some 93,none,.bin .add .plain (.tmp 10) (.cst (.int .i64 1))⟩,
⟨some 10,none,.mv (.tmp 93)⟩]))))))⟩
theorem tr30:trF Go.Proofs.Tryd.prog { obj:=[90],bare:=[],loops:=[[0,8,9,10]],draws:=[(5,([0,1,3,7,0,16,0,0,128,384,896,1984,4095],[(0,[]),(1,[]),(2,[]),(3,[]),(4,[]),(5,[]),(6,[]),(7,[]),(8,[]),(9,[]),(10,[]),(11,[3,5]),(12,[])])),(7,([0,0,2,6,14,31,0,0,128,384,896,2047,4095,8191],[(0,[]),(1,[]),(2,[]),(3,[]),(4,[]),(6,[]),(7,[]),(8,[]),(9,[]),(10,[]),(5,[7,9]),(11,[]),(12,[]),(13,[])])),(8,([0,1,3,7,0,16,63,0,0,511,1023],[(0,[]),(1,[]),(2,[]),(3,[]),(4,[]),(5,[]),(6,[]),(7,[]),(8,[]),(9,[]),(10,[])])),(16,([0,0,2,6,14,0,0,64,192,448,992,2016,4094,8191,16383,32767],[(0,[]),(1,[]),(2,[]),(3,[]),(4,[]),(5,[]),(6,[]),(7,[]),(8,[]),(9,[]),(10,[4]),(11,[]),(12,[]),(13,[]),(14,[]),(15,[])]))],glob:=globs,fresh:=false } Go.Proofs.Tryd.f30=some ir30:=by kernel_rfl
def ir32:IFn:=⟨8,[.tmp 2 false],
.seq (.reg [⟨some 1,none,.box (.tmp 0) false⟩,
⟨some 2,none,.mv (.cst (.int .i64 0))⟩])
(.seq (.seq (.reg [⟨some 3,none,.fad (.tmp 1) 3⟩,
⟨some 4,none,.load (.tmp 3) 1 false⟩,
⟨some 5,none,.bin .gtr .plain (.tmp 4) (.cst (.int .i64 0))⟩])
(.cond (.tmp 5)
(.seq (.reg [⟨some 6,none,.fad (.tmp 1) 3⟩,
⟨some 7,none,.load (.tmp 6) 1 false⟩,
⟨some 2,none,.mv (.tmp 7)⟩])
(.ret))
(.skip)))
(.seq (.reg [⟨some 2,none,.mv (.cst (.int .i64 1))⟩])
(.ret)))⟩
theorem tr32:trF Go.Proofs.Tryd.prog { obj:=[],bare:=[],loops:=[],draws:=[],glob:=globs,fresh:=false } Go.Proofs.Tryd.f32=some ir32:=by kernel_rfl
def ir35:IFn:=⟨11,[.tmp 2 false],
.seq (.reg [⟨some 1,none,.box (.tmp 0) false⟩,
⟨some 2,none,.mv (.cst (.int .i64 0))⟩])
(.seq (.reg [⟨some 6,none,.load (.tmp 1) 3 true⟩,
⟨some 7,none,.call 37 [(.tmp 6)]⟩,
⟨some 5,none,.mv (.tmp 7)⟩,
⟨some 8,none,.ext (.tmp 5) 0⟩,
⟨some 9,none,.ext (.tmp 5) 1⟩,
⟨some 3,none,.mv (.tmp 8)⟩,
⟨some 4,none,.mv (.tmp 9)⟩])
(.seq (.reg [⟨some 10,none,.mv (.tmp 4)⟩,
⟨some 2,none,.mv (.tmp 10)⟩])
(.ret)))⟩
theorem tr35:trF Go.Proofs.Tryd.prog { obj:=[],bare:=[],loops:=[],draws:=[],glob:=globs,fresh:=false } Go.Proofs.Tryd.f35=some ir35:=by kernel_rfl
def ir36:IFn:=⟨89,[.tmp 4 false],
.seq (.reg [⟨some 2,none,.box (.tmp 0) false⟩,
⟨some 4,none,.mv (.cst (.bool false))⟩])
(.seq (.reg [⟨some 12,none,.mv (.tmp 1)⟩,
⟨some 13,none,.len .i (.tmp 12)⟩,
⟨some 14,none,.mks (.tmp 13) (.tmp 13) 1 8 false [(.int .i64 0)] true⟩,
⟨some 5,none,.mv (.tmp 14)⟩])
(.seq (.seq (.reg [⟨some 15,none,.fad (.tmp 2) 0⟩,
⟨some 16,none,.load (.tmp 15) 1 false⟩,
⟨some 17,none,.len .i (.tmp 16)⟩,
⟨some 18,none,.mv (.cst (.int .i64 0))⟩])
(.block 0
(.loop [1,5,16,17,18]
(.seq (.reg [⟨some 19,none,.bin .lss .plain (.tmp 18) (.tmp 17)⟩])
(.seq (.cond (.tmp 19)
(.skip)
(.brk 0))
(.seq (.block 1
(.seq (.reg [⟨some 20,none,.idxS (.tmp 16) (.tmp 18) 4⟩,
⟨some 21,none,.load (.tmp 20) 4 true⟩,
⟨some 7,none,.allocz [(.str ⟨#[]⟩),(.int .i64 0),(.int .i64 0),(.int .i64 0)] false⟩,
⟨none,none,.store (.tmp 7) (.tmp 21) 4⟩])
(.seq (.seq (.reg [⟨some 22,none,.fad (.tmp 7) 1⟩,
⟨some 23,none,.load (.tmp 22) 1 false⟩,
⟨some 24,none,.mv (.tmp 1)⟩,
⟨some 25,none,.len .i (.tmp 24)⟩,
⟨some 26,none,.bin .gtr .plain (.tmp 23) (.tmp 25)⟩])
(.cond (.tmp 26)
(.seq (.reg [⟨some 4,none,.mv (.cst (.bool false))⟩])
(.ret))
(.skip)))
(.seq (.reg [⟨some 27,none,.load (.tmp 7) 4 true⟩,
⟨some 28,none,.call 28 [(.tmp 27)]⟩,
⟨some 29,none,.mv (.cst (.int .i64 0))⟩])
(.block 2
(.loop [1,5,7,16,17,18,28,29]
(.seq (.reg [⟨some 30,none,.bin .lss .plain (.tmp 29) (.tmp 28)⟩])
(.seq (.cond (.tmp 30)
(.skip)
(.brk 2))
(.seq (.block 3
(.seq (.draw [(⟨some 31,none,.mv (.tmp 1)⟩,0,[]),
(⟨some 32,none,.fad (.tmp 7) 1⟩,1,[]),
(⟨some 33,none,.load (.tmp 32) 1 false⟩,2,[]),
(⟨some 34,none,.bin .sub .plain (.tmp 33) (.cst (.int .i64 1))⟩,3,[]),
(⟨some 35,none,.idxS (.tmp 31) (.tmp 34) 1⟩,4,[]),
(⟨some 36,none,.load (.tmp 35) 1 false⟩,5,[]),
(⟨some 37,none,.mv (.tmp 5)⟩,6,[]),
(⟨some 38,none,.fad (.tmp 7) 1⟩,7,[]),
(⟨some 39,none,.load (.tmp 38) 1 false⟩,8,[]),
(⟨some 40,none,.bin .sub .plain (.tmp 39) (.cst (.int .i64 1))⟩,9,[]),
(⟨some 41,none,.idxS (.tmp 37) (.tmp 40) 1⟩,10,[]),
(⟨some 42,none,.load (.tmp 41) 1 false⟩,11,[]),
(⟨some 8,none,.mv (.tmp 36)⟩,12,[]),
(⟨some 9,none,.mv (.tmp 42)⟩,13,[])])
(.seq (.seq (.draw [(⟨some 43,none,.mv (.tmp 9)⟩,0,[]),
(⟨some 44,none,.mv (.tmp 8)⟩,1,[]),
(⟨some 45,none,.len .i (.tmp 44)⟩,2,[]),
(⟨some 46,none,.bin .geq .plain (.tmp 43) (.tmp 45)⟩,3,[]),
(⟨some 47,none,.mv (.tmp 46)⟩,4,[]),
(⟨some 48,some (47,false),.mv (.tmp 8)⟩,5,[]),
(⟨some 49,some (47,false),.mv (.tmp 9)⟩,6,[]),
(⟨some 50,some (47,false),.idxS (.tmp 48) (.tmp 49) 1⟩,7,[]),
(⟨some 51,some (47,false),.load (.tmp 50) 1 false⟩,8,[]),
(⟨some 52,some (47,false),.bin .neq .plain (.tmp 51) (.cst (.int .u64 0))⟩,9,[]),
(⟨some 53,some (47,false),.mv (.tmp 52)⟩,10,[]),
(⟨some 54,some (53,true),.mv (.tmp 8)⟩,11,[]),
(⟨some 55,some (53,true),.mv (.tmp 9)⟩,12,[]),
(⟨some 56,some (53,true),.idxS (.tmp 54) (.tmp 55) 1⟩,13,[]),
(⟨some 57,some (53,true),.load (.tmp 56) 1 false⟩,14,[]),
(⟨some 59,some (53,true),.fad (.tmp 7) 2⟩,16,[]),
(⟨some 60,some (53,true),.load (.tmp 59) 1 false⟩,17,[]),
(⟨some 58,some (53,true),.call 50 [(.tmp 57)]⟩,15,[16]),
(⟨some 61,some (53,true),.bin .gtr .plain (.tmp 58) (.tmp 60)⟩,18,[]),
(⟨some 62,some (47,false),.pick (.tmp 53) (.tmp 61) (.cst (.bool false))⟩,19,[]),
(⟨some 63,none,.pick (.tmp 47) (.cst (.bool true)) (.tmp 62)⟩,20,[])])
(.cond (.tmp 63)
(.seq (.reg [⟨some 4,none,.mv (.cst (.bool false))⟩])
(.ret))
(.skip)))
(.reg [⟨some 64,none,.mv (.tmp 5)⟩,
⟨some 65,none,.fad (.tmp 7) 1⟩,
⟨some 66,none,.load (.tmp 65) 1 false⟩,
⟨some 67,none,.bin .sub .plain (.tmp 66) (.cst (.int .i64 1))⟩,
⟨some 68,none,.idxS (.tmp 64) (.tmp 67) 1⟩,
⟨some 69,none,.load (.tmp 68) 1 false⟩,
⟨some 70,none,.bin .add .plain (.tmp 69) (.cst (.int .i64 1))⟩,
⟨some 71,none,.idxS (.tmp 64) (.tmp 67) 1⟩,
⟨none,none,.store (.tmp 71) (.tmp 70) 1⟩]))))
(.reg [⟨some 72,none,.bin .add .plain (.tmp 29) (.cst (.int .i64 1))⟩,
⟨some 29,none,.mv (.tmp 72)⟩]))))))))))
(.reg [⟨some 73,none,.bin .add .plain (.tmp 18) (.cst (.int .i64 1))⟩,
⟨some 18,none,.mv (.tmp 73)⟩])))))))
(.seq (.seq (.reg [⟨some 74,none,.mv (.tmp 1)⟩,
⟨some 75,none,.len .i (.tmp 74)⟩,
⟨some 76,none,.mv (.cst (.int .i64 0))⟩])
(.block 4
(.loop [5,74,75,76]
(.seq (.reg [⟨some 77,none,.bin .lss .plain (.tmp 76) (.tmp 75)⟩])
(.seq (.cond (.tmp 77)
(.skip)
(.brk 4))
(.seq (.block 5
(.seq (.reg [⟨some 78,none,.mv (.tmp 76)⟩,
⟨some 79,none,.idxS (.tmp 74) (.tmp 76) 1⟩,
⟨some 80,none,.load (.tmp 79) 1 false⟩,
⟨some 10,none,.mv (.tmp 78)⟩,
⟨some 11,none,.mv (.tmp 80)⟩])
(.seq (.reg [⟨some 81,none,.mv (.tmp 5)⟩,
⟨some 82,none,.mv (.tmp 10)⟩,
⟨some 83,none,.idxS (.tmp 81) (.tmp 82) 1⟩,
⟨some 84,none,.load (.tmp 83) 1 false⟩,
⟨some 85,none,.mv (.tmp 11)⟩,
⟨some 86,none,.len .i (.tmp 85)⟩,
⟨some 87,none,.bin .neq .plain (.tmp 84) (.tmp 86)⟩])
(.cond (.tmp 87)
(.seq (.reg [⟨some 4,none,.mv (.cst (.bool false))⟩])
(.ret))
(.skip)))))
(.reg [⟨some 88,none,.bin .add .plain (.tmp 76) (.cst (.int .i64 1))⟩,
⟨some 76,none,.mv (.tmp 88)⟩])))))))
(.seq (.reg [⟨some 4,none,.mv (.cst (.bool true))⟩])
(.ret)))))⟩
theorem tr36:trF Go.Proofs.Tryd.prog { obj:=[14],bare:=[],loops:=[[1,5,16,17,18],[1,5,7,16,17,18,28,29],[5,74,75,76]],draws:=[(9,([0,0,2,6,15,31,0,0,128,384,960,1984,63,8191],[(0,[]),(1,[]),(2,[]),(3,[]),(4,[]),(5,[]),(6,[]),(7,[]),(8,[]),(9,[]),(10,[]),(11,[]),(12,[]),(13,[])])),(10,([0,0,2,7,15,31,31,127,255,511,1023,2047,2047,8191,16383,32767,2047,67583,262143,524287,1048575],[(0,[]),(1,[]),(2,[]),(3,[]),(4,[]),(5,[]),(6,[]),(7,[]),(8,[]),(9,[]),(10,[]),(11,[]),(12,[]),(13,[]),(14,[]),(16,[]),(17,[]),(15,[16]),(18,[]),(19,[]),(20,[])]))],glob:=globs,fresh:=false } Go.Proofs.Tryd.f36=some ir36:=by kernel_rfl
def ir37:IFn:=⟨96,[.cell 2 1 false false,.cell 3 1 false false],
.seq (.reg [⟨some 1,none,.box (.tmp 0) false⟩,
⟨some 2,none,.allocz [(.int .i64 0)] true⟩,
⟨some 3,none,.allocz [(.int .i64 0)] true⟩])
(.seq (.reg [⟨some 10,none,.mkM⟩,
⟨some 11,none,.mkM⟩,
⟨some 12,none,.mkM⟩,
⟨some 13,none,.mkM⟩,
⟨some 14,none,.mkM⟩,
⟨some 15,none,.bld [.nilmap,.nilmap,.nilmap,.nilmap,.nilmap,(.int .i64 0),(.int .i64 0),(.int .i64 0)] [(0,1,(.tmp 10)),(1,1,(.tmp 11)),(2,1,(.tmp 12)),(3,1,(.tmp 13)),(4,1,(.tmp 14))]⟩,
⟨some 16,none,.box (.tmp 15) true⟩,
⟨some 4,none,.mv (.tmp 16)⟩])
(.seq (.seq (.reg [⟨some 17,none,.fad (.tmp 1) 0⟩,
⟨some 18,none,.load (.tmp 17) 1 false⟩,
⟨some 19,none,.len .i (.tmp 18)⟩,
⟨some 20,none,.mv (.cst (.int .i64 0))⟩])
(.block 0
(.loop [1,2,3,4,18,19,20]
(.seq (.reg [⟨some 21,none,.bin .lss .plain (.tmp 20) (.tmp 19)⟩])
(.seq (.cond (.tmp 21)
(.skip)
(.brk 0))
(.seq (.block 1
(.seq (.reg [⟨some 22,none,.idxS (.tmp 18) (.tmp 20) 4⟩,
⟨some 23,none,.load (.tmp 22) 4 true⟩,
⟨some 6,none,.allocz [(.str ⟨#[]⟩),(.int .i64 0),(.int .i64 0),(.int .i64 0)] false⟩,
⟨none,none,.store (.tmp 6) (.tmp 23) 4⟩])
(.seq (.seq (.reg [⟨some 24,none,.mv (.tmp 4)⟩,
⟨some 25,none,.fad (.tmp 6) 0⟩,
⟨some 26,none,.load (.tmp 25) 1 false⟩,
⟨some 27,none,.call 52 [(.tmp 24),(.tmp 26)]⟩])
(.cond (.tmp 27)
(.reg [⟨some 28,none,.call 53 [(.cst (.int .i64 4))]⟩])
(.skip)))
(.seq (.draw [(⟨some 29,none,.mv (.tmp 4)⟩,0,[]),
(⟨some 30,none,.nilc (.tmp 29)⟩,1,[]),
(⟨some 31,none,.fad (.tmp 30) 0⟩,2,[]),
(⟨some 32,none,.load (.tmp 31) 1 false⟩,3,[]),
(⟨some 33,none,.fad (.tmp 6) 0⟩,4,[]),
(⟨some 34,none,.load (.tmp 33) 1 false⟩,5,[]),
(⟨some 35,none,.load (.tmp 6) 4 true⟩,6,[]),
(⟨none,none,.mup .s (.tmp 32) (.tmp 34) (.tmp 35)⟩,7,[])])
(.draw [(⟨some 36,none,.mv (.tmp 4)⟩,0,[]),
(⟨some 37,none,.mv (.tmp 4)⟩,1,[]),
(⟨some 38,none,.nilc (.tmp 37)⟩,2,[]),
(⟨some 39,none,.fad (.tmp 38) 6⟩,3,[]),
(⟨some 40,none,.load (.tmp 39) 1 false⟩,4,[]),
(⟨some 41,none,.fad (.tmp 6) 2⟩,5,[]),
(⟨some 42,none,.load (.tmp 41) 1 false⟩,6,[]),
(⟨some 43,none,.max [(.tmp 40),(.tmp 42)]⟩,7,[]),
(⟨some 44,none,.nilc (.tmp 36)⟩,8,[]),
(⟨some 45,none,.fad (.tmp 44) 6⟩,9,[]),
(⟨none,none,.store (.tmp 45) (.tmp 43) 1⟩,10,[])])))))
(.reg [⟨some 46,none,.bin .add .plain (.tmp 20) (.cst (.int .i64 1))⟩,
⟨some 20,none,.mv (.tmp 46)⟩])))))))
(.seq (.seq (.reg [⟨some 47,none,.fad (.tmp 1) 1⟩,
⟨some 48,none,.load (.tmp 47) 1 false⟩,
⟨some 49,none,.len .i (.tmp 48)⟩,
⟨some 50,none,.mv (.cst (.int .i64 0))⟩])
(.block 2
(.loop [1,2,3,4,48,49,50]
(.seq (.reg [⟨some 51,none,.bin .lss .plain (.tmp 50) (.tmp 49)⟩])
(.seq (.cond (.tmp 51)
(.skip)
(.brk 2))
(.seq (.block 3
(.seq (.reg [⟨some 52,none,.idxS (.tmp 48) (.tmp 50) 2⟩,
⟨some 53,none,.load (.tmp 52) 2 true⟩,
⟨some 8,none,.allocz [(.str ⟨#[]⟩),(.int .i64 0)] false⟩,
⟨none,none,.store (.tmp 8) (.tmp 53) 2⟩])
(.seq (.seq (.reg [⟨some 54,none,.mv (.tmp 4)⟩,
⟨some 55,none,.fad (.tmp 8) 0⟩,
⟨some 56,none,.load (.tmp 55) 1 false⟩,
⟨some 57,none,.call 52 [(.tmp 54),(.tmp 56)]⟩])
(.cond (.tmp 57)
(.reg [⟨some 58,none,.call 53 [(.cst (.int .i64 4))]⟩])
(.skip)))
(.seq (.draw [(⟨some 59,none,.mv (.tmp 4)⟩,0,[]),
(⟨some 60,none,.nilc (.tmp 59)⟩,1,[]),
(⟨some 61,none,.fad (.tmp 60) 1⟩,2,[]),
(⟨some 62,none,.load (.tmp 61) 1 false⟩,3,[]),
(⟨some 63,none,.fad (.tmp 8) 0⟩,4,[]),
(⟨some 64,none,.load (.tmp 63) 1 false⟩,5,[]),
(⟨some 65,none,.fad (.tmp 8) 1⟩,6,[]),
(⟨some 66,none,.load (.tmp 65) 1 false⟩,7,[]),
(⟨none,none,.mup .s (.tmp 62) (.tmp 64) (.tmp 66)⟩,8,[])])
(.seq (.reg [⟨some 67,none,.fad (.tmp 8) 1⟩,
⟨some 68,none,.load (.tmp 67) 1 false⟩,
⟨some 69,none,.mv (.cst (.int .i64 0))⟩])
(.block 4
(.loop [1,2,3,4,8,48,49,50,68,69]
(.seq (.reg [⟨some 70,none,.bin .lss .plain (.tmp 69) (.tmp 68)⟩])
(.seq (.cond (.tmp 70)
(.skip)
(.brk 4))
(.seq (.block 5
(.draw [(⟨some 71,none,.mv (.tmp 4)⟩,0,[]),
(⟨some 72,none,.nilc (.tmp 71)⟩,1,[]),
(⟨some 73,none,.fad (.tmp 72) 3⟩,2,[]),
(⟨some 74,none,.load (.tmp 73) 1 false⟩,3,[]),
(⟨some 75,none,.fad (.tmp 8) 0⟩,4,[]),
(⟨some 76,none,.load (.tmp 75) 1 false⟩,5,[]),
(⟨some 77,none,.mv (.tmp 4)⟩,6,[]),
(⟨some 78,none,.nilc (.tmp 77)⟩,7,[]),
(⟨some 79,none,.fad (.tmp 78) 3⟩,8,[]),
(⟨some 80,none,.load (.tmp 79) 1 false⟩,9,[]),
(⟨some 81,none,.fad (.tmp 8) 0⟩,10,[]),
(⟨some 82,none,.load (.tmp 81) 1 false⟩,11,[]),
(⟨some 83,none,.lkp .s (.tmp 80) (.tmp 82) (.vec [] .full) false⟩,12,[]),
(⟨some 84,none,.bsl 1 1 false [(.int .i64 0)] [(0,1,(.cst (.int .i64 1)))]⟩,13,[]),
(⟨some 85,none,.app (.tmp 83) (.tmp 84) 1 8 false true⟩,14,[3,5]),
(⟨none,none,.mup .s (.tmp 74) (.tmp 76) (.tmp 85)⟩,15,[])]))
(.reg [⟨some 86,none,.bin .add .plain (.tmp 69) (.cst (.int .i64 1))⟩,
⟨some 69,none,.mv (.tmp 86)⟩])))))))))))
(.reg [⟨some 87,none,.bin .add .plain (.tmp 50) (.cst (.int .i64 1))⟩,
⟨some 50,none,.mv (.tmp 87)⟩])))))))
(.seq (.reg [⟨some 88,none,.mv (.tmp 4)⟩,
⟨some 89,none,.fad (.tmp 1) 2⟩,
⟨some 90,none,.load (.tmp 89) 1 false⟩,
⟨some 91,none,.call 54 [(.tmp 88),(.tmp 90)]⟩])
(.seq (.reg [⟨some 92,none,.mv (.tmp 4)⟩,
⟨some 93,none,.nilc (.tmp 92)⟩,
⟨some 94,none,.fad (.tmp 93) 6⟩,
⟨some 95,none,.load (.tmp 94) 1 false⟩,
⟨none,none,.store (.tmp 2) (.tmp 95) 1⟩,
⟨none,none,.store (.tmp 3) (.cst (.int .i64 0)) 1⟩])
(.ret))))))⟩
def hs37:Hints:={ obj:=[2,3,16,85,15],bare:=[],loops:=[[1,2,3,4,18,19,20],[1,2,3,4,48,49,50],[1,2,3,4,8,48,49,50,68,69]],draws:=[(8,([0,1,3,7,0,16,0,127],[(0,[]),(1,[]),(2,[]),(3,[]),(4,[]),(5,[]),(6,[]),(7,[])])),(9,([0,0,2,6,14,0,32,126,255,511,1023],[(0,[]),(1,[]),(2,[]),(3,[]),(4,[]),(5,[]),(6,[]),(7,[]),(8,[]),(9,[]),(10,[])])),(16,([0,1,3,7,0,16,0,64,255],[(0,[]),(1,[]),(2,[]),(3,[]),(4,[]),(5,[]),(6,[]),(7,[]),(8,[])])),(19,([0,1,3,7,0,16,0,64,192,448,0,1024,4032,0,16320,32767],[(0,[]),(1,[]),(2,[]),(3,[]),(4,[]),(5,[]),(6,[]),(7,[]),(8,[]),(9,[]),(10,[]),(11,[]),(12,[]),(13,[]),(14,[3,5]),(15,[])]))],glob:=globs,fresh:=false }
theorem tr37:trD Go.Proofs.Tryd.prog (hs37) 4 Go.Proofs.Tryd.f37=some ir37:=by kernel_rfl
def ir38:IFn:=⟨11,[.tmp 2 false],
.seq (.reg [⟨some 2,none,.mv (.cst (.int .i64 0))⟩])
(.seq (.reg [⟨some 3,none,.mv (.cst (.int .i64 1))⟩])
(.seq (.block 0
(.loop [0,3]
(.seq (.seq (.reg [⟨some 4,none,.mv (.tmp 0)⟩,
⟨some 5,none,.bin .gtr .plain (.tmp 4) (.cst (.int .u64 1))⟩])
(.cond (.tmp 5)
(.skip)
(.brk 0)))
(.block 1
(.seq (.reg [⟨some 6,none,.mv (.tmp 0)⟩,
⟨some 7,none,.bin .quo .plain (.tmp 6) (.cst (.int .u64 2))⟩,
⟨some 0,none,.mv (.tmp 7)⟩])
(.reg [⟨some 8,none,.mv (.tmp 3)⟩,
⟨some 9,none,.bin .add .plain (.tmp 8) (.cst (.int .i64 1))⟩,
⟨some 3,none,.mv (.tmp 9)⟩]))))))
(.seq (.reg [⟨some 10,none,.mv (.tmp 3)⟩,
⟨some 2,none,.mv (.tmp 10)⟩])
(.ret))))⟩
theorem tr38:trF Go.Proofs.Tryd.prog { obj:=[],bare:=[],loops:=[[0,3]],draws:=[],glob:=globs,fresh:=false } Go.Proofs.Tryd.f38=some ir38:=by kernel_rfl
def ir39:IFn:=⟨52,[.tmp 6 false],
.seq (.reg [⟨some 6,none,.mv (.cst (.int .i64 0))⟩])
(.seq (.reg [⟨some 8,none,.mv (.tmp 2)⟩,
⟨some 9,none,.mv (.tmp 0)⟩,
⟨some 10,none,.len .i (.tmp 9)⟩,
⟨some 11,none,.bin .sub .plain (.tmp 8) (.tmp 10)⟩,
⟨some 2,none,.mv (.tmp 11)⟩])
(.seq (.seq (.reg [⟨some 7,none,.mv (.cst (.int .i64 0))⟩])
(.block 0
(.loop [0,1,2,7]
(.seq (.seq (.reg [⟨some 12,none,.mv (.tmp 7)⟩,
⟨some 13,none,.mv (.tmp 0)⟩,
⟨some 14,none,.len .i (.tmp 13)⟩,
⟨some 15,none,.bin .lss .plain (.tmp 12) (.tmp 14)⟩,
⟨some 16,none,.mv (.tmp 15)⟩,
⟨some 17,some (16,true),.mv (.tmp 2)⟩,
⟨some 18,some (16,true),.bin .geq .plain (.tmp 17) (.cst (.int .i64 0))⟩,
⟨some 19,none,.pick (.tmp 16) (.tmp 18) (.cst (.bool false))⟩])
(.cond (.tmp 19)
(.skip)
(.brk 0)))
(.seq (.block 1
(.seq (.seq (.reg [⟨some 22,none,.mv (.tmp 1)⟩,
⟨some 23,none,.bin .gtr .plain (.tmp 22) (.cst (.int .i64 40))⟩])
(.cond (.tmp 23)
(.seq (.reg [⟨some 6,none,.mv (.cst (.int .i64 (-1)))⟩])
(.ret))
(.skip)))
(.seq (.reg [⟨some 24,none,.mv (.tmp 0)⟩,
⟨some 25,none,.mv (.tmp 7)⟩,
⟨some 26,none,.idxS (.tmp 24) (.tmp 25) 5⟩,
⟨some 27,none,.fad (.tmp 26) 2⟩,
⟨some 28,none,.load (.tmp 27) 1 false⟩,
⟨some 29,none,.mv (.tmp 1)⟩,
⟨some 30,none,.bin .add .plain (.tmp 29) (.cst (.int .i64 1))⟩,
⟨some 31,none,.mv (.tmp 2)⟩,
⟨some 32,none,.call 55 [(.tmp 28),(.tmp 30),(.tmp 31)]⟩,
⟨some 2,none,.mv (.tmp 32)⟩])
(.seq (.reg [⟨some 33,none,.mv (.tmp 0)⟩,
⟨some 34,none,.mv (.tmp 7)⟩,
⟨some 35,none,.idxS (.tmp 33) (.tmp 34) 5⟩,
⟨some 36,none,.fad (.tmp 35) 3⟩,
⟨some 37,none,.load (.tmp 36) 1 false⟩,
⟨some 38,none,.mv (.tmp 1)⟩,
⟨some 39,none,.bin .add .plain (.tmp 38) (.cst (.int .i64 1))⟩,
⟨some 40,none,.mv (.tmp 2)⟩,
⟨some 41,none,.call 39 [(.tmp 37),(.tmp 39),(.tmp 40)]⟩,
⟨some 2,none,.mv (.tmp 41)⟩])
(.reg [⟨some 42,none,.mv (.tmp 0)⟩,
⟨some 43,none,.mv (.tmp 7)⟩,
⟨some 44,none,.idxS (.tmp 42) (.tmp 43) 5⟩,
⟨some 45,none,.fad (.tmp 44) 4⟩,
⟨some 46,none,.load (.tmp 45) 1 false⟩,
⟨some 47,none,.mv (.tmp 1)⟩,
⟨some 48,none,.bin .add .plain (.tmp 47) (.cst (.int .i64 1))⟩,
⟨some 49,none,.mv (.tmp 2)⟩,
⟨some 50,none,.call 39 [(.tmp 46),(.tmp 48),(.tmp 49)]⟩,
⟨some 2,none,.mv (.tmp 50)⟩])))))
(.reg [⟨some 20,none,.mv (.tmp 7)⟩,
⟨some 21,none,.bin .add .plain (.tmp 20) (.cst (.int .i64 1))⟩,
⟨some 7,none,.mv (.tmp 21)⟩]))))))
(.seq (.reg [⟨some 51,none,.mv (.tmp 2)⟩,
⟨some 6,none,.mv (.tmp 51)⟩])
(.ret))))⟩
theorem tr39:trF Go.Proofs.Tryd.prog { obj:=[],bare:=[],loops:=[[0,1,2,7]],draws:=[],glob:=globs,fresh:=false } Go.Proofs.Tryd.f39=some ir39:=by kernel_rfl
def ir40:IFn:=⟨28,[.tmp 2 false],
.seq (.reg [⟨some 2,none,.mv (.cst (.bool false))⟩])
(.seq (.reg [⟨some 3,none,.mv (.tmp 0)⟩,
⟨some 4,none,.len .s (.tmp 3)⟩,
⟨some 5,none,.bin .geq .plain (.tmp 4) (.cst (.int .i64 1))⟩,
⟨some 6,none,.mv (.tmp 5)⟩,
⟨some 7,some (6,true),.mv (.tmp 0)⟩,
⟨some 8,some (6,true),.len .s (.tmp 7)⟩,
⟨some 9,some (6,true),.bin .leq .plain (.tmp 8) (.cst (.int .i64 20))⟩,
⟨some 10,none,.pick (.tmp 6) (.tmp 9) (.cst (.bool false))⟩,
⟨some 11,none,.mv (.tmp 10)⟩,
⟨some 12,some (11,true),.mv (.tmp 0)⟩,
⟨some 13,some (11,true),.idxStr (.tmp 12) (.cst (.int .i64 0))⟩,
⟨some 14,some (11,true),.call 56 [(.tmp 13)]⟩,
⟨some 15,none,.pick (.tmp 11) (.tmp 14) (.cst (.bool false))⟩,
⟨some 16,none,.mv (.tmp 15)⟩,
⟨some 17,some (16,true),.mv (.tmp 0)⟩,
⟨some 18,some (16,true),.call 57 [(.tmp 17),(.cst (.bool false))]⟩,
⟨some 19,some (16,true),.mv (.tmp 0)⟩,
⟨some 20,some (16,true),.len .s (.tmp 19)⟩,
⟨some 21,some (16,true),.bin .eql .plain (.tmp 18) (.tmp 20)⟩,
⟨some 22,none,.pick (.tmp 16) (.tmp 21) (.cst (.bool false))⟩,
⟨some 23,none,.mv (.tmp 22)⟩,
⟨some 24,some (23,true),.mv (.tmp 0)⟩,
⟨some 25,some (23,true),.call 58 [(.tmp 24)]⟩,
⟨some 26,some (23,true),.un .not (.tmp 25)⟩,
⟨some 27,none,.pick (.tmp 23) (.tmp 26) (.cst (.bool false))⟩,
⟨some 2,none,.mv (.tmp 27)⟩])
(.ret))⟩
theorem tr40:trF Go.Proofs.Tryd.prog { obj:=[],bare:=[],loops:=[],draws:=[],glob:=globs,fresh:=false } Go.Proofs.Tryd.f40=some ir40:=by kernel_rfl
def ir41:IFn:=⟨19,[.tmp 4 false],
.seq (.reg [⟨some 4,none,.mv (.cst (.bool false))⟩])
(.seq (.seq (.reg [⟨some 5,none,.mv (.cst (.int .i64 0))⟩])
(.block 0
(.loop [0,1,5]
(.seq (.seq (.reg [⟨some 6,none,.mv (.tmp 5)⟩,
⟨some 7,none,.mv (.tmp 0)⟩,
⟨some 8,none,.len .i (.tmp 7)⟩,
⟨some 9,none,.bin .lss .plain (.tmp 6) (.tmp 8)⟩])
(.cond (.tmp 9)
(.skip)
(.brk 0)))
(.seq (.block 1
(.seq (.reg [⟨some 12,none,.mv (.tmp 0)⟩,
⟨some 13,none,.mv (.tmp 5)⟩,
⟨some 14,none,.idxS (.tmp 12) (.tmp 13) 5⟩,
⟨some 15,none,.load (.tmp 14) 5 true⟩,
⟨some 16,none,.mv (.tmp 1)⟩,
⟨some 17,none,.call 59 [(.tmp 15),(.tmp 16)]⟩,
⟨some 18,none,.un .not (.tmp 17)⟩])
(.cond (.tmp 18)
(.seq (.reg [⟨some 4,none,.mv (.cst (.bool false))⟩])
(.ret))
(.skip))))
(.reg [⟨some 10,none,.mv (.tmp 5)⟩,
⟨some 11,none,.bin .add .plain (.tmp 10) (.cst (.int .i64 1))⟩,
⟨some 5,none,.mv (.tmp 11)⟩]))))))
(.seq (.reg [⟨some 4,none,.mv (.cst (.bool true))⟩])
(.ret)))⟩
theorem tr41:trF Go.Proofs.Tryd.prog { obj:=[],bare:=[],loops:=[[0,1,5]],draws:=[],glob:=globs,fresh:=false } Go.Proofs.Tryd.f41=some ir41:=by kernel_rfl
def ir42:IFn:=⟨77,[.tmp 2 false],
.seq (.reg [⟨some 1,none,.box (.tmp 0) false⟩,
⟨some 2,none,.mv (.cst (.str ⟨#[]⟩))⟩])
(.seq (.reg [⟨some 3,none,.mv (.cst (.str ⟨#[]⟩))⟩])
(.seq (.seq (.reg [⟨some 4,none,.mv (.cst (.int .i64 0))⟩])
(.block 0
(.loop [1,3,4]
(.seq (.seq (.reg [⟨some 8,none,.mv (.tmp 4)⟩,
⟨some 9,none,.fad (.tmp 1) 0⟩,
⟨some 10,none,.load (.tmp 9) 1 false⟩,
⟨some 11,none,.len .i (.tmp 10)⟩,
⟨some 12,none,.bin .lss .plain (.tmp 8) (.tmp 11)⟩])
(.cond (.tmp 12)
(.skip)
(.brk 0)))
(.seq (.block 1
(.seq (.reg [⟨some 15,none,.fad (.tmp 1) 0⟩,
⟨some 16,none,.load (.tmp 15) 1 false⟩,
⟨some 17,none,.mv (.tmp 4)⟩,
⟨some 18,none,.idxS (.tmp 16) (.tmp 17) 4⟩,
⟨some 19,none,.load (.tmp 18) 4 true⟩,
⟨some 5,none,.allocz [(.str ⟨#[]⟩),(.int .i64 0),(.int .i64 0),(.int .i64 0)] false⟩,
⟨none,none,.store (.tmp 5) (.tmp 19) 4⟩])
(.seq (.reg [⟨some 6,none,.mv (.cst (.str ⟨#[]⟩))⟩])
(.seq (.seq (.reg [⟨some 20,none,.fad (.tmp 5) 3⟩,
⟨some 21,none,.load (.tmp 20) 1 false⟩,
⟨some 22,none,.bin .neq .plain (.tmp 21) (.cst (.int .i64 0))⟩])
(.cond (.tmp 22)
(.reg [⟨some 23,none,.fad (.tmp 5) 3⟩,
⟨some 24,none,.load (.tmp 23) 1 false⟩,
⟨some 25,none,.call 60 [(.tmp 24)]⟩,
⟨some 26,none,.bin .add .plain (.cst (.str ⟨#[91]⟩)) (.tmp 25)⟩,
⟨some 27,none,.bin .add .plain (.tmp 26) (.cst (.str ⟨#[93]⟩))⟩,
⟨some 6,none,.mv (.tmp 27)⟩])
(.skip)))
(.draw [(⟨some 28,none,.mv (.tmp 3)⟩,0,[]),
(⟨some 29,none,.bin .add .plain (.tmp 28) (.cst (.str ⟨#[105,110,32]⟩))⟩,1,[]),
(⟨some 30,none,.fad (.tmp 5) 0⟩,2,[]),
(⟨some 31,none,.load (.tmp 30) 1 false⟩,3,[]),
(⟨some 32,none,.bin .add .plain (.tmp 29) (.tmp 31)⟩,4,[]),
(⟨some 33,none,.mv (.tmp 6)⟩,5,[]),
(⟨some 34,none,.bin .add .plain (.tmp 32) (.tmp 33)⟩,6,[]),
(⟨some 35,none,.bin .add .plain (.tmp 34) (.cst (.str ⟨#[32,102,114,111,109,32]⟩))⟩,7,[]),
(⟨some 36,none,.fad (.tmp 5) 1⟩,8,[]),
(⟨some 37,none,.load (.tmp 36) 1 false⟩,9,[]),
(⟨some 41,none,.fad (.tmp 5) 2⟩,13,[]),
(⟨some 42,none,.load (.tmp 41) 1 false⟩,14,[]),
(⟨some 38,none,.call 60 [(.tmp 37)]⟩,10,[3,11]),
(⟨some 39,none,.bin .add .plain (.tmp 35) (.tmp 38)⟩,11,[]),
(⟨some 40,none,.bin .add .plain (.tmp 39) (.cst (.str ⟨#[58,32]⟩))⟩,12,[]),
(⟨some 43,none,.call 60 [(.tmp 42)]⟩,15,[3]),
(⟨some 44,none,.bin .add .plain (.tmp 40) (.tmp 43)⟩,16,[]),
(⟨some 45,none,.bin .add .plain (.tmp 44) (.cst (.str ⟨#[59,10]⟩))⟩,17,[]),
(⟨some 3,none,.mv (.tmp 45)⟩,18,[])])))))
(.reg [⟨some 13,none,.mv (.tmp 4)⟩,
⟨some 14,none,.bin .add .plain (.tmp 13) (.cst (.int .i64 1))⟩,
⟨some 4,none,.mv (.tmp 14)⟩]))))))
(.seq (.seq (.reg [⟨some 7,none,.mv (.cst (.int .i64 0))⟩])
(.block 2
(.loop [1,3,7]
(.seq (.seq (.reg [⟨some 46,none,.mv (.tmp 7)⟩,
⟨some 47,none,.fad (.tmp 1) 1⟩,
⟨some 48,none,.load (.tmp 47) 1 false⟩,
⟨some 49,none,.len .i (.tmp 48)⟩,
⟨some 50,none,.bin .lss .plain (.tmp 46) (.tmp 49)⟩])
(.cond (.tmp 50)
(.skip)
(.brk 2)))
(.seq (.block 3
(.draw [(⟨some 53,none,.mv (.tmp 3)⟩,0,[]),
(⟨some 54,none,.bin .add .plain (.tmp 53) (.cst (.str ⟨#[97,114,114,97,121,32]⟩))⟩,1,[]),
(⟨some 55,none,.fad (.tmp 1) 1⟩,2,[]),
(⟨some 56,none,.load (.tmp 55) 1 false⟩,3,[]),
(⟨some 57,none,.mv (.tmp 7)⟩,4,[]),
(⟨some 58,none,.idxS (.tmp 56) (.tmp 57) 2⟩,5,[]),
(⟨some 59,none,.fad (.tmp 58) 0⟩,6,[]),
(⟨some 60,none,.load (.tmp 59) 1 false⟩,7,[]),
(⟨some 61,none,.bin .add .plain (.tmp 54) (.tmp 60)⟩,8,[]),
(⟨some 62,none,.bin .add .plain (.tmp 61) (.cst (.str ⟨#[91]⟩))⟩,9,[]),
(⟨some 63,none,.fad (.tmp 1) 1⟩,10,[]),
(⟨some 64,none,.load (.tmp 63) 1 false⟩,11,[]),
(⟨some 65,none,.mv (.tmp 7)⟩,12,[]),
(⟨some 66,none,.idxS (.tmp 64) (.tmp 65) 2⟩,13,[]),
(⟨some 67,none,.fad (.tmp 66) 1⟩,14,[]),
(⟨some 68,none,.load (.tmp 67) 1 false⟩,15,[]),
(⟨some 69,none,.call 60 [(.tmp 68)]⟩,16,[3,7]),
(⟨some 70,none,.bin .add .plain (.tmp 62) (.tmp 69)⟩,17,[]),
(⟨some 71,none,.bin .add .plain (.tmp 70) (.cst (.str ⟨#[93,59,10]⟩))⟩,18,[]),
(⟨some 3,none,.mv (.tmp 71)⟩,19,[])]))
(.reg [⟨some 51,none,.mv (.tmp 7)⟩,
⟨some 52,none,.bin .add .plain (.tmp 51) (.cst (.int .i64 1))⟩,
⟨some 7,none,.mv (.tmp 52)⟩]))))))
(.seq (.reg [⟨some 72,none,.mv (.tmp 3)⟩,
⟨some 73,none,.fad (.tmp 1) 2⟩,
⟨some 74,none,.load (.tmp 73) 1 false⟩,
⟨some 75,none,.call 61 [(.tmp 74),(.cst (.str ⟨#[]⟩))]⟩,
⟨some 76,none,.bin .add .plain (.tmp 72) (.tmp 75)⟩,
⟨some 2,none,.mv (.tmp 76)⟩])
(.ret)))))⟩
theorem tr42:trF Go.Proofs.Tryd.prog { obj:=[],bare:=[],loops:=[[1,3,4],[1,3,7]],draws:=[(9,([0,1,0,4,15,0,63,127,0,256,768,2047,4095,0,8192,26368,65535,131071,262143],[(0,[]),(1,[]),(2,[]),(3,[]),(4,[]),(5,[]),(6,[]),(7,[]),(8,[]),(9,[]),(13,[]),(14,[]),(10,[3,11]),(11,[]),(12,[]),(15,[3]),(16,[]),(17,[]),(18,[])])),(13,([0,1,0,4,0,28,60,124,255,511,0,1024,0,7168,15360,31744,64512,131071,262143,524287],[(0,[]),(1,[]),(2,[]),(3,[]),(4,[]),(5,[]),(6,[]),(7,[]),(8,[]),(9,[]),(10,[]),(11,[]),(12,[]),(13,[]),(14,[]),(15,[]),(16,[3,7]),(17,[]),(18,[]),(19,[])]))],glob:=globs,fresh:=false } Go.Proofs.Tryd.f42=some ir42:=by kernel_rfl
def ir44:IFn:=⟨120,[.tmp 4 false],
.seq (.reg [⟨some 3,none,.box (.tmp 1) false⟩,
⟨some 4,none,.mv (.cst (.int .u64 0))⟩])
(.seq (.seq (.reg [⟨some 7,none,.fad (.tmp 3) 0⟩,
⟨some 8,none,.load (.tmp 7) 1 false⟩])
(.block 0
(.seq (.reg [⟨some 10,none,.bin .eql .plain (.tmp 8) (.cst (.int .i64 1))⟩,
⟨some 9,none,.mv (.tmp 10)⟩])
(.cond (.tmp 9)
(.seq (.reg [⟨some 11,none,.fad (.tmp 3) 2⟩,
⟨some 12,none,.load (.tmp 11) 1 false⟩,
⟨some 4,none,.mv (.tmp 12)⟩])
(.ret))
(.seq (.reg [⟨some 14,none,.bin .eql .plain (.tmp 8) (.cst (.int .i64 2))⟩,
⟨some 13,none,.mv (.tmp 14)⟩])
(.cond (.tmp 13)
(.seq (.draw [(⟨some 15,none,.mv (.tmp 0)⟩,0,[]),
(⟨some 16,none,.nilc (.tmp 15)⟩,1,[]),
(⟨some 17,none,.fad (.tmp 16) 0⟩,2,[]),
(⟨some 18,none,.load (.tmp 17) 1 false⟩,3,[]),
(⟨some 19,none,.fad (.tmp 3) 3⟩,4,[]),
(⟨some 20,none,.load (.tmp 19) 1 false⟩,5,[]),
(⟨some 21,none,.lkp .s (.tmp 18) (.tmp 20) (.int .u64 0) false⟩,6,[]),
(⟨some 4,none,.mv (.tmp 21)⟩,7,[])])
(.ret))
(.seq (.reg [⟨some 23,none,.bin .eql .plain (.tmp 8) (.cst (.int .i64 3))⟩,
⟨some 22,none,.mv (.tmp 23)⟩])
(.cond (.tmp 22)
(.seq (.draw [(⟨some 24,none,.mv (.tmp 0)⟩,0,[]),
(⟨some 25,none,.nilc (.tmp 24)⟩,1,[]),
(⟨some 26,none,.fad (.tmp 25) 1⟩,2,[]),
(⟨some 27,none,.load (.tmp 26) 1 false⟩,3,[]),
(⟨some 28,none,.fad (.tmp 3) 3⟩,4,[]),
(⟨some 29,none,.load (.tmp 28) 1 false⟩,5,[]),
(⟨some 30,none,.lkp .s (.tmp 27) (.tmp 29) (.vec [] .full) false⟩,6,[]),
(⟨some 31,none,.mv (.tmp 0)⟩,7,[]),
(⟨some 32,none,.fad (.tmp 3) 4⟩,8,[]),
(⟨some 33,none,.load (.tmp 32) 1 false⟩,9,[]),
(⟨some 34,none,.idxS (.tmp 33) (.cst (.int .i64 0)) 5⟩,10,[]),
(⟨some 35,none,.load (.tmp 34) 5 true⟩,11,[]),
(⟨some 36,none,.call 44 [(.tmp 31),(.tmp 35)]⟩,12,[3,5,6]),
(⟨some 37,none,.idxS (.tmp 30) (.tmp 36) 1⟩,13,[]),
(⟨some 38,none,.load (.tmp 37) 1 false⟩,14,[]),
(⟨some 4,none,.mv (.tmp 38)⟩,15,[])])
(.ret))
(.seq (.reg [⟨some 40,none,.bin .eql .plain (.tmp 8) (.cst (.int .i64 5))⟩,
⟨some 39,none,.mv (.tmp 40)⟩])
(.cond (.tmp 39)
(.seq (.reg [⟨some 41,none,.mv (.tmp 0)⟩,
⟨some 42,none,.fad (.tmp 3) 4⟩,
⟨some 43,none,.load (.tmp 42) 1 false⟩,
⟨some 44,none,.idxS (.tmp 43) (.cst (.int .i64 0)) 5⟩,
⟨some 45,none,.load (.tmp 44) 5 true⟩,
⟨some 46,none,.call 44 [(.tmp 41),(.tmp 45)]⟩,
⟨some 47,none,.bin .sub .plain (.cst (.int .u64 1)) (.tmp 46)⟩,
⟨some 4,none,.mv (.tmp 47)⟩])
(.ret))
(.seq (.reg [⟨some 49,none,.bin .eql .plain (.tmp 8) (.cst (.int .i64 6))⟩,
⟨some 48,none,.mv (.tmp 49)⟩])
(.cond (.tmp 48)
(.seq (.seq (.reg [⟨some 50,none,.mv (.tmp 0)⟩,
⟨some 51,none,.fad (.tmp 3) 4⟩,
⟨some 52,none,.load (.tmp 51) 1 false⟩,
⟨some 53,none,.idxS (.tmp 52) (.cst (.int .i64 0)) 5⟩,
⟨some 54,none,.load (.tmp 53) 5 true⟩,
⟨some 55,none,.call 44 [(.tmp 50),(.tmp 54)]⟩,
⟨some 56,none,.bin .eql .plain (.tmp 55) (.cst (.int .u64 1))⟩])
(.cond (.tmp 56)
(.seq (.reg [⟨some 57,none,.mv (.tmp 0)⟩,
⟨some 58,none,.fad (.tmp 3) 4⟩,
⟨some 59,none,.load (.tmp 58) 1 false⟩,
⟨some 60,none,.idxS (.tmp 59) (.cst (.int .i64 1)) 5⟩,
⟨some 61,none,.load (.tmp 60) 5 true⟩,
⟨some 62,none,.call 44 [(.tmp 57),(.tmp 61)]⟩,
⟨some 4,none,.mv (.tmp 62)⟩])
(.ret))
(.skip)))
(.seq (.reg [⟨some 63,none,.mv (.tmp 0)⟩,
⟨some 64,none,.fad (.tmp 3) 4⟩,
⟨some 65,none,.load (.tmp 64) 1 false⟩,
⟨some 66,none,.idxS (.tmp 65) (.cst (.int .i64 2)) 5⟩,
⟨some 67,none,.load (.tmp 66) 5 true⟩,
⟨some 68,none,.call 44 [(.tmp 63),(.tmp 67)]⟩,
⟨some 4,none,.mv (.tmp 68)⟩])
(.ret)))
(.skip)))))))))))))
(.seq (.draw [(⟨some 69,none,.mv (.tmp 0)⟩,0,[]),
(⟨some 70,none,.fad (.tmp 3) 4⟩,1,[]),
(⟨some 71,none,.load (.tmp 70) 1 false⟩,2,[]),
(⟨some 72,none,.idxS (.tmp 71) (.cst (.int .i64 0)) 5⟩,3,[]),
(⟨some 73,none,.load (.tmp 72) 5 true⟩,4,[]),
(⟨some 75,none,.mv (.tmp 0)⟩,6,[]),
(⟨some 76,none,.fad (.tmp 3) 4⟩,7,[]),
(⟨some 77,none,.load (.tmp 76) 1 false⟩,8,[]),
(⟨some 78,none,.idxS (.tmp 77) (.cst (.int .i64 1)) 5⟩,9,[]),
(⟨some 79,none,.load (.tmp 78) 5 true⟩,10,[]),
(⟨some 74,none,.call 44 [(.tmp 69),(.tmp 73)]⟩,5,[7,9]),
(⟨some 80,none,.call 44 [(.tmp 75),(.tmp 79)]⟩,11,[]),
(⟨some 5,none,.mv (.tmp 74)⟩,12,[]),
(⟨some 6,none,.mv (.tmp 80)⟩,13,[])])
(.seq (.seq (.reg [⟨some 81,none,.fad (.tmp 3) 1⟩,
⟨some 82,none,.load (.tmp 81) 1 false⟩])
(.block 1
(.seq (.reg [⟨some 84,none,.bin .eql .plain (.tmp 82) (.cst (.int .i64 1))⟩,
⟨some 83,none,.mv (.tmp 84)⟩])
(.cond (.tmp 83)
(.seq (.reg [⟨some 85,none,.mv (.tmp 5)⟩,
⟨some 86,none,.mv (.tmp 6)⟩,
⟨some 87,none,.bin .add .plain (.tmp 85) (.tmp 86)⟩,
⟨some 4,none,.mv (.tmp 87)⟩])
(.ret))
(.seq (.reg [⟨some 89,none,.bin .eql .plain (.tmp 82) (.cst (.int .i64 2))⟩,
⟨some 88,none,.mv (.tmp 89)⟩])
(.cond (.tmp 88)
(.seq (.reg [⟨some 90,none,.mv (.tmp 5)⟩,
⟨some 91,none,.mv (.tmp 5)⟩,
⟨some 92,none,.mv (.tmp 6)⟩,
⟨some 93,none,.min [(.tmp 91),(.tmp 92)]⟩,
⟨some 94,none,.bin .sub .plain (.tmp 90) (.tmp 93)⟩,
⟨some 4,none,.mv (.tmp 94)⟩])
(.ret))
(.seq (.reg [⟨some 96,none,.bin .eql .plain (.tmp 82) (.cst (.int .i64 3))⟩,
⟨some 95,none,.mv (.tmp 96)⟩])
(.cond (.tmp 95)
(.seq (.reg [⟨some 97,none,.mv (.tmp 5)⟩,
⟨some 98,none,.mv (.tmp 6)⟩,
⟨some 99,none,.bin .mul .plain (.tmp 97) (.tmp 98)⟩,
⟨some 4,none,.mv (.tmp 99)⟩])
(.ret))
(.seq (.reg [⟨some 101,none,.bin .eql .plain (.tmp 82) (.cst (.int .i64 4))⟩,
⟨some 100,none,.mv (.tmp 101)⟩])
(.cond (.tmp 100)
(.seq (.reg [⟨some 102,none,.mv (.tmp 5)⟩,
⟨some 103,none,.mv (.tmp 6)⟩,
⟨some 104,none,.bin .lss .plain (.tmp 102) (.tmp 103)⟩,
⟨some 105,none,.call 62 [(.tmp 104)]⟩,
⟨some 4,none,.mv (.tmp 105)⟩])
(.ret))
(.seq (.reg [⟨some 107,none,.bin .eql .plain (.tmp 82) (.cst (.int .i64 5))⟩,
⟨some 106,none,.mv (.tmp 107)⟩])
(.cond (.tmp 106)
(.seq (.reg [⟨some 108,none,.mv (.tmp 5)⟩,
⟨some 109,none,.mv (.tmp 6)⟩,
⟨some 110,none,.bin .eql .plain (.tmp 108) (.tmp 109)⟩,
⟨some 111,none,.call 62 [(.tmp 110)]⟩,
⟨some 4,none,.mv (.tmp 111)⟩])
(.ret))
(.seq (.reg [⟨some 113,none,.bin .eql .plain (.tmp 82) (.cst (.int .i64 6))⟩,
⟨some 112,none,.mv (.tmp 113)⟩])
(.cond (.tmp 112)
(.seq (.reg [⟨some 114,none,.mv (.tmp 5)⟩,
⟨some 115,none,.mv (.tmp 6)⟩,
⟨some 116,none,.bin .and .plain (.tmp 114) (.tmp 115)⟩,
⟨some 4,none,.mv (.tmp 116)⟩])
(.ret))
(.skip)))))))))))))))
(.seq (.reg [⟨some 117,none,.mv (.tmp 5)⟩,
⟨some 118,none,.mv (.tmp 6)⟩,
⟨some 119,none,.bin .or .plain (.tmp 117) (.tmp 118)⟩,
⟨some 4,none,.mv (.tmp 119)⟩])
(.ret)))))⟩
theorem tr44:trF Go.Proofs.Tryd.prog { obj:=[],bare:=[],loops:=[],draws:=[(5,([0,1,3,7,0,16,63,127],[(0,[]),(1,[]),(2,[]),(3,[]),(4,[]),(5,[]),(6,[]),(7,[])])),(7,([0,1,3,7,0,16,63,0,0,256,768,1792,3968,8191,16383,32767],[(0,[]),(1,[]),(2,[]),(3,[]),(4,[]),(5,[]),(6,[]),(7,[]),(8,[]),(9,[]),(10,[]),(11,[]),(12,[3,5,6]),(13,[]),(14,[]),(15,[])])),(14,([0,0,2,6,14,31,0,0,128,384,896,2047,4095,8191],[(0,[]),(1,[]),(2,[]),(3,[]),(4,[]),(6,[]),(7,[]),(8,[]),(9,[]),(10,[]),(5,[7,9]),(11,[]),(12,[]),(13,[])]))],glob:=globs,fresh:=false } Go.Proofs.Tryd.f44=some ir44:=by kernel_rfl
def ir45:IFn:=⟨48,[],
.seq (.reg [⟨some 3,none,.box (.tmp 1) false⟩])
(.seq (.draw [(⟨some 7,none,.mv (.tmp 0)⟩,0,[]),
(⟨some 8,none,.fad (.tmp 3) 2⟩,1,[]),
(⟨some 9,none,.load (.tmp 8) 1 false⟩,2,[]),
(⟨some 10,none,.idxS (.tmp 9) (.cst (.int .i64 0)) 5⟩,3,[]),
(⟨some 11,none,.load (.tmp 10) 5 true⟩,4,[]),
(⟨some 13,none,.mv (.tmp 0)⟩,6,[]),
(⟨some 14,none,.fad (.tmp 3) 2⟩,7,[]),
(⟨some 15,none,.load (.tmp 14) 1 false⟩,8,[]),
(⟨some 16,none,.idxS (.tmp 15) (.cst (.int .i64 1)) 5⟩,9,[]),
(⟨some 17,none,.load (.tmp 16) 5 true⟩,10,[]),
(⟨some 12,none,.call 44 [(.tmp 7),(.tmp 11)]⟩,5,[7,9]),
(⟨some 18,none,.call 44 [(.tmp 13),(.tmp 17)]⟩,11,[]),
(⟨some 4,none,.mv (.tmp 12)⟩,12,[]),
(⟨some 5,none,.mv (.tmp 18)⟩,13,[])])
(.seq (.draw [(⟨some 19,none,.mv (.tmp 0)⟩,0,[]),
(⟨some 20,none,.nilc (.tmp 19)⟩,1,[]),
(⟨some 21,none,.fad (.tmp 20) 0⟩,2,[]),
(⟨some 22,none,.load (.tmp 21) 1 false⟩,3,[]),
(⟨some 23,none,.fad (.tmp 3) 1⟩,4,[]),
(⟨some 24,none,.load (.tmp 23) 1 false⟩,5,[]),
(⟨none,none,.mdel .s (.tmp 22) (.tmp 24)⟩,6,[])])
(.seq (.seq (.reg [⟨some 25,none,.mv (.tmp 4)⟩,
⟨some 6,none,.mv (.tmp 25)⟩])
(.block 0
(.loop [0,3,5,6]
(.seq (.seq (.reg [⟨some 26,none,.mv (.tmp 6)⟩,
⟨some 27,none,.mv (.tmp 5)⟩,
⟨some 28,none,.bin .leq .plain (.tmp 26) (.tmp 27)⟩])
(.cond (.tmp 28)
(.skip)
(.brk 0)))
(.seq (.block 1
(.seq (.draw [(⟨some 31,none,.mv (.tmp 0)⟩,0,[]),
(⟨some 32,none,.nilc (.tmp 31)⟩,1,[]),
(⟨some 33,none,.fad (.tmp 32) 0⟩,2,[]),
(⟨some 34,none,.load (.tmp 33) 1 false⟩,3,[]),
(⟨some 35,none,.fad (.tmp 3) 1⟩,4,[]),
(⟨some 36,none,.load (.tmp 35) 1 false⟩,5,[]),
(⟨some 37,none,.mv (.tmp 6)⟩,6,[]),
(⟨none,none,.mup .s (.tmp 34) (.tmp 36) (.tmp 37)⟩,7,[])])
(.reg [⟨some 38,none,.mv (.tmp 0)⟩,
⟨some 39,none,.fad (.tmp 3) 3⟩,
⟨some 40,none,.load (.tmp 39) 1 false⟩,
⟨some 41,none,.call 30 [(.tmp 38),(.tmp 40)]⟩])))
(.reg [⟨some 29,none,.mv (.tmp 6)⟩,
⟨some 30,none,.bin .add .plain (.tmp 29) (.cst (.int .u64 1))⟩,
⟨some 6,none,.mv (.tmp 30)⟩]))))))
(.draw [(⟨some 42,none,.mv (.tmp 0)⟩,0,[]),
(⟨some 43,none,.nilc (.tmp 42)⟩,1,[]),
(⟨some 44,none,.fad (.tmp 43) 0⟩,2,[]),
(⟨some 45,none,.load (.tmp 44) 1 false⟩,3,[]),
(⟨some 46,none,.fad (.tmp 3) 1⟩,4,[]),
(⟨some 47,none,.load (.tmp 46) 1 false⟩,5,[]),
(⟨none,none,.mdel .s (.tmp 45) (.tmp 47)⟩,6,[])]))))⟩
theorem tr45:trF Go.Proofs.Tryd.prog { obj:=[],bare:=[],loops:=[[0,3,5,6]],draws:=[(1,([0,0,2,6,14,31,0,0,128,384,896,2047,4095,8191],[(0,[]),(1,[]),(2,[]),(3,[]),(4,[]),(6,[]),(7,[]),(8,[]),(9,[]),(10,[]),(5,[7,9]),(11,[]),(12,[]),(13,[])])),(2,([0,1,3,7,0,16,63],[(0,[]),(1,[]),(2,[]),(3,[]),(4,[]),(5,[]),(6,[])])),(6,([0,1,3,7,0,16,0,127],[(0,[]),(1,[]),(2,[]),(3,[]),(4,[]),(5,[]),(6,[]),(7,[])])),(8,([0,1,3,7,0,16,63],[(0,[]),(1,[]),(2,[]),(3,[]),(4,[]),(5,[]),(6,[])]))],glob:=globs,fresh:=false } Go.Proofs.Tryd.f45=some ir45:=by kernel_rfl
def ir50:IFn:=⟨6,[.tmp 2 false],
.seq (.reg [⟨some 2,none,.mv (.cst (.int .i64 0))⟩])
(.seq (.reg [⟨some 3,none,.mv (.tmp 0)⟩,
⟨some 4,none,.call 65 [(.tmp 3)]⟩,
⟨some 5,none,.max [(.tmp 4),(.cst (.int .i64 1))]⟩,
⟨some 2,none,.mv (.tmp 5)⟩])
(.ret))⟩
theorem tr50:trF Go.Proofs.Tryd.prog { obj:=[],bare:=[],loops:=[],draws:=[],glob:=globs,fresh:=false } Go.Proofs.Tryd.f50=some ir50:=by kernel_rfl
def ir51:IFn:=⟨9,[],
.draw [(⟨some 6,none,.mv (.tmp 2)⟩,0,[]),
(⟨some 7,none,.asrt 93 (.tmp 6)⟩,1,[]),
(⟨some 8,none,.fld (.tmp 7) 0 1 false⟩,2,[]),
(⟨none,none,.store (.tmp 0) (.cst (.int .i64 0)) 1⟩,3,[]),
(⟨none,none,.store (.tmp 1) (.tmp 8) 1⟩,4,[])]⟩
def hs51:Hints:={ obj:=[],bare:=[],loops:=[],draws:=[(2,([0,1,3,0,15],[(0,[]),(1,[]),(2,[]),(3,[]),(4,[])]))],glob:=globs,fresh:=false }
def ir52:IFn:=⟨45,[.tmp 4 false],
.seq (.reg [⟨some 4,none,.mv (.cst (.bool false))⟩])
(.seq (.reg [⟨some 12,none,.mv (.tmp 0)⟩,
⟨some 13,none,.nilc (.tmp 12)⟩,
⟨some 14,none,.fad (.tmp 13) 0⟩,
⟨some 15,none,.load (.tmp 14) 1 false⟩,
⟨some 16,none,.mv (.tmp 1)⟩,
⟨some 17,none,.lkp .s (.tmp 15) (.tmp 16) (.agg [(.str ⟨#[]⟩),(.int .i64 0),(.int .i64 0),(.int .i64 0)]) true⟩,
⟨some 11,none,.mv (.tmp 17)⟩,
⟨some 18,none,.ext (.tmp 11) 0⟩,
⟨some 19,none,.ext (.tmp 11) 1⟩,
⟨some 5,none,.allocz [(.str ⟨#[]⟩),(.int .i64 0),(.int .i64 0),(.int .i64 0)] false⟩,
⟨none,none,.store (.tmp 5) (.tmp 18) 4⟩,
⟨some 6,none,.mv (.tmp 19)⟩])
(.seq (.reg [⟨some 21,none,.mv (.tmp 0)⟩,
⟨some 22,none,.nilc (.tmp 21)⟩,
⟨some 23,none,.fad (.tmp 22) 1⟩,
⟨some 24,none,.load (.tmp 23) 1 false⟩,
⟨some 25,none,.mv (.tmp 1)⟩,
⟨some 26,none,.lkp .s (.tmp 24) (.tmp 25) (.int .i64 0) true⟩,
⟨some 20,none,.mv (.tmp 26)⟩,
⟨some 27,none,.ext (.tmp 20) 0⟩,
⟨some 28,none,.ext (.tmp 20) 1⟩,
⟨some 7,none,.mv (.tmp 27)⟩,
⟨some 8,none,.mv (.tmp 28)⟩])
(.seq (.reg [⟨some 30,none,.mv (.tmp 0)⟩,
⟨some 31,none,.nilc (.tmp 30)⟩,
⟨some 32,none,.fad (.tmp 31) 4⟩,
⟨some 33,none,.load (.tmp 32) 1 false⟩,
⟨some 34,none,.mv (.tmp 1)⟩,
⟨some 35,none,.lkp .s (.tmp 33) (.tmp 34) (.agg [(.int .i64 0),(.int .i64 0),(.bool false),(.int .u64 0)]) true⟩,
⟨some 29,none,.mv (.tmp 35)⟩,
⟨some 36,none,.ext (.tmp 29) 0⟩,
⟨some 37,none,.ext (.tmp 29) 1⟩,
⟨some 9,none,.allocz [(.int .i64 0),(.int .i64 0),(.bool false),(.int .u64 0)] false⟩,
⟨none,none,.store (.tmp 9) (.tmp 36) 4⟩,
⟨some 10,none,.mv (.tmp 37)⟩])
(.seq (.reg [⟨some 38,none,.mv (.tmp 6)⟩,
⟨some 39,none,.mv (.tmp 38)⟩,
⟨some 40,some (39,false),.mv (.tmp 8)⟩,
⟨some 41,none,.pick (.tmp 39) (.cst (.bool true)) (.tmp 40)⟩,
⟨some 42,none,.mv (.tmp 41)⟩,
⟨some 43,some (42,false),.mv (.tmp 10)⟩,
⟨some 44,none,.pick (.tmp 42) (.cst (.bool true)) (.tmp 43)⟩,
⟨some 4,none,.mv (.tmp 44)⟩])
(.ret)))))⟩
theorem tr52:trF Go.Proofs.Tryd.prog { obj:=[],bare:=[],loops:=[],draws:=[],glob:=globs,fresh:=false } Go.Proofs.Tryd.f52=some ir52:=by kernel_rfl
def ir53:IFn:=⟨5,[],
.reg [⟨some 2,none,.mv (.tmp 0)⟩,
⟨some 3,none,.bld [(.int .i64 0)] [(0,1,(.tmp 2))]⟩,
⟨some 4,none,.mkI 93 (.tmp 3)⟩,
⟨none,none,.pan (.tmp 4)⟩]⟩
theorem tr53:trF Go.Proofs.Tryd.prog { obj:=[],bare:=[],loops:=[],draws:=[],glob:=globs,fresh:=false } Go.Proofs.Tryd.f53=some ir53:=by kernel_rfl
def ir54:IFn:=⟨22,[],
.seq (.reg [⟨some 6,none,.mv (.tmp 1)⟩,
⟨some 7,none,.len .i (.tmp 6)⟩,
⟨some 8,none,.mv (.cst (.int .i64 0))⟩])
(.block 0
(.loop [0,6,7,8]
(.seq (.reg [⟨some 9,none,.bin .lss .plain (.tmp 8) (.tmp 7)⟩])
(.seq (.cond (.tmp 9)
(.skip)
(.brk 0))
(.seq (.block 1
(.seq (.reg [⟨some 10,none,.idxS (.tmp 6) (.tmp 8) 5⟩,
⟨some 11,none,.load (.tmp 10) 5 true⟩,
⟨some 5,none,.allocz [(.int .i64 0),(.str ⟨#[]⟩),(.vec [] .full),(.vec [] .full),(.vec [] .full)] false⟩,
⟨none,none,.store (.tmp 5) (.tmp 11) 5⟩])
(.seq (.reg [⟨some 12,none,.mv (.tmp 0)⟩,
⟨some 13,none,.call 66 [(.tmp 12)]⟩])
(.draw [(⟨some 14,none,.mv (.tmp 0)⟩,0,[]),
(⟨some 15,none,.load (.tmp 5) 5 true⟩,1,[]),
(⟨some 16,none,.mv (.tmp 0)⟩,2,[]),
(⟨some 17,none,.fad (.tmp 5) 2⟩,3,[]),
(⟨some 18,none,.load (.tmp 17) 1 false⟩,4,[]),
(⟨some 19,none,.call 68 [(.tmp 16),(.tmp 18)]⟩,5,[1]),
(⟨some 20,none,.call 67 [(.tmp 14),(.tmp 15),(.tmp 19)]⟩,6,[])]))))
(.reg [⟨some 21,none,.bin .add .plain (.tmp 8) (.cst (.int .i64 1))⟩,
⟨some 8,none,.mv (.tmp 21)⟩]))))))⟩
theorem tr54:trF Go.Proofs.Tryd.prog { obj:=[],bare:=[],loops:=[[0,6,7,8]],draws:=[(4,([0,0,0,0,8,28,63],[(0,[]),(1,[]),(2,[]),(3,[]),(4,[]),(5,[1]),(6,[])]))],glob:=globs,fresh:=false } Go.Proofs.Tryd.f54=some ir54:=by kernel_rfl
def ir55:IFn:=⟨34,[.tmp 6 false],
.seq (.reg [⟨some 6,none,.mv (.cst (.int .i64 0))⟩])
(.seq (.reg [⟨some 8,none,.mv (.tmp 2)⟩,
⟨some 9,none,.mv (.tmp 0)⟩,
⟨some 10,none,.len .i (.tmp 9)⟩,
⟨some 11,none,.bin .sub .plain (.tmp 8) (.tmp 10)⟩,
⟨some 2,none,.mv (.tmp 11)⟩])
(.seq (.seq (.reg [⟨some 7,none,.mv (.cst (.int .i64 0))⟩])
(.block 0
(.loop [0,1,2,7]
(.seq (.seq (.reg [⟨some 12,none,.mv (.tmp 7)⟩,
⟨some 13,none,.mv (.tmp 0)⟩,
⟨some 14,none,.len .i (.tmp 13)⟩,
⟨some 15,none,.bin .lss .plain (.tmp 12) (.tmp 14)⟩,
⟨some 16,none,.mv (.tmp 15)⟩,
⟨some 17,some (16,true),.mv (.tmp 2)⟩,
⟨some 18,some (16,true),.bin .geq .plain (.tmp 17) (.cst (.int .i64 0))⟩,
⟨some 19,none,.pick (.tmp 16) (.tmp 18) (.cst (.bool false))⟩])
(.cond (.tmp 19)
(.skip)
(.brk 0)))
(.seq (.block 1
(.seq (.seq (.reg [⟨some 22,none,.mv (.tmp 1)⟩,
⟨some 23,none,.bin .gtr .plain (.tmp 22) (.cst (.int .i64 40))⟩])
(.cond (.tmp 23)
(.seq (.reg [⟨some 6,none,.mv (.cst (.int .i64 (-1)))⟩])
(.ret))
(.skip)))
(.reg [⟨some 24,none,.mv (.tmp 0)⟩,
⟨some 25,none,.mv (.tmp 7)⟩,
⟨some 26,none,.idxS (.tmp 24) (.tmp 25) 5⟩,
⟨some 27,none,.fad (.tmp 26) 4⟩,
⟨some 28,none,.load (.tmp 27) 1 false⟩,
⟨some 29,none,.mv (.tmp 1)⟩,
⟨some 30,none,.bin .add .plain (.tmp 29) (.cst (.int .i64 1))⟩,
⟨some 31,none,.mv (.tmp 2)⟩,
⟨some 32,none,.call 55 [(.tmp 28),(.tmp 30),(.tmp 31)]⟩,
⟨some 2,none,.mv (.tmp 32)⟩])))
(.reg [⟨some 20,none,.mv (.tmp 7)⟩,
⟨some 21,none,.bin .add .plain (.tmp 20) (.cst (.int .i64 1))⟩,
⟨some 7,none,.mv (.tmp 21)⟩]))))))
(.seq (.reg [⟨some 33,none,.mv (.tmp 2)⟩,
⟨some 6,none,.mv (.tmp 33)⟩])
(.ret))))⟩
theorem tr55:trF Go.Proofs.Tryd.prog { obj:=[],bare:=[],loops:=[[0,1,2,7]],draws:=[],glob:=globs,fresh:=false } Go.Proofs.Tryd.f55=some ir55:=by kernel_rfl
def ir56:IFn:=⟨17,[.tmp 2 false],
.seq (.reg [⟨some 2,none,.mv (.cst (.bool false))⟩])
(.seq (.reg [⟨some 3,none,.mv (.tmp 0)⟩,
⟨some 4,none,.bin .geq .plain (.tmp 3) (.cst (.int .u8 97))⟩,
⟨some 5,none,.mv (.tmp 4)⟩,
⟨some 6,some (5,true),.mv (.tmp 0)⟩,
⟨some 7,some (5,true),.bin .leq .plain (.tmp 6) (.cst (.int .u8 122))⟩,
⟨some 8,none,.pick (.tmp 5) (.tmp 7) (.cst (.bool false))⟩,
⟨some 9,none,.mv (.tmp 8)⟩,
⟨some 10,some (9,false),.mv (.tmp 0)⟩,
⟨some 11,some (9,false),.bin .geq .plain (.tmp 10) (.cst (.int .u8 65))⟩,
⟨some 12,some (9,false),.mv (.tmp 11)⟩,
⟨some 13,some (12,true),.mv (.tmp 0)⟩,
⟨some 14,some (12,true),.bin .leq .plain (.tmp 13) (.cst (.int .u8 90))⟩,
⟨some 15,some (9,false),.pick (.tmp 12) (.tmp 14) (.cst (.bool false))⟩,
⟨some 16,none,.pick (.tmp 9) (.cst (.bool true)) (.tmp 15)⟩,
⟨some 2,none,.mv (.tmp 16)⟩])
(.ret))⟩
theorem tr56:trF Go.Proofs.Tryd.prog { obj:=[],bare:=[],loops:=[],draws:=[],glob:=globs,fresh:=false } Go.Proofs.Tryd.f56=some ir56:=by kernel_rfl
def ir57:IFn:=⟨35,[.tmp 4 false],
.seq (.reg [⟨some 4,none,.mv (.cst (.int .i64 0))⟩])
(.seq (.reg [⟨some 5,none,.mv (.cst (.int .i64 0))⟩])
(.seq (.block 0
(.loop [0,1,5]
(.seq (.seq (.reg [⟨some 6,none,.mv (.tmp 5)⟩,
⟨some 7,none,.mv (.tmp 0)⟩,
⟨some 8,none,.len .s (.tmp 7)⟩,
⟨some 9,none,.bin .lss .plain (.tmp 6) (.tmp 8)⟩,
⟨some 10,none,.mv (.tmp 9)⟩,
⟨some 11,some (10,true),.mv (.tmp 0)⟩,
⟨some 12,some (10,true),.mv (.tmp 5)⟩,
⟨some 13,some (10,true),.idxStr (.tmp 11) (.tmp 12)⟩,
⟨some 14,some (10,true),.call 69 [(.tmp 13)]⟩,
⟨some 15,some (10,true),.mv (.tmp 14)⟩,
⟨some 16,some (15,false),.mv (.tmp 1)⟩,
⟨some 17,some (15,false),.un .not (.tmp 16)⟩,
⟨some 18,some (15,false),.mv (.tmp 17)⟩,
⟨some 19,some (18,true),.mv (.tmp 0)⟩,
⟨some 20,some (18,true),.mv (.tmp 5)⟩,
⟨some 21,some (18,true),.idxStr (.tmp 19) (.tmp 20)⟩,
⟨some 22,some (18,true),.call 56 [(.tmp 21)]⟩,
⟨some 23,some (18,true),.mv (.tmp 22)⟩,
⟨some 24,some (23,false),.mv (.tmp 0)⟩,
⟨some 25,some (23,false),.mv (.tmp 5)⟩,
⟨some 26,some (23,false),.idxStr (.tmp 24) (.tmp 25)⟩,
⟨some 27,some (23,false),.bin .eql .plain (.tmp 26) (.cst (.int .u8 95))⟩,
⟨some 28,some (18,true),.pick (.tmp 23) (.cst (.bool true)) (.tmp 27)⟩,
⟨some 29,some (15,false),.pick (.tmp 18) (.tmp 28) (.cst (.bool false))⟩,
⟨some 30,some (10,true),.pick (.tmp 15) (.cst (.bool true)) (.tmp 29)⟩,
⟨some 31,none,.pick (.tmp 10) (.tmp 30) (.cst (.bool false))⟩])
(.cond (.tmp 31)
(.skip)
(.brk 0)))
(.block 1
(.reg [⟨some 32,none,.mv (.tmp 5)⟩,
⟨some 33,none,.bin .add .plain (.tmp 32) (.cst (.int .i64 1))⟩,
⟨some 5,none,.mv (.tmp 33)⟩])))))
(.seq (.reg [⟨some 34,none,.mv (.tmp 5)⟩,
⟨some 4,none,.mv (.tmp 34)⟩])
(.ret))))⟩
theorem tr57:trF Go.Proofs.Tryd.prog { obj:=[],bare:=[],loops:=[[0,1,5]],draws:=[],glob:=globs,fresh:=false } Go.Proofs.Tryd.f57=some ir57:=by kernel_rfl
def ir58:IFn:=⟨18,[.tmp 2 false],
.seq (.reg [⟨some 2,none,.mv (.cst (.bool false))⟩])
(.seq (.reg [⟨some 5,none,.bsl 8 1 false [(.str ⟨#[]⟩)] [(0,1,(.cst (.str ⟨#[105,110]⟩))),(1,1,(.cst (.str ⟨#[102,114,111,109]⟩))),(2,1,(.cst (.str ⟨#[97,114,114,97,121]⟩))),(3,1,(.cst (.str ⟨#[105,102]⟩))),(4,1,(.cst (.str ⟨#[101,108,115,101]⟩))),(5,1,(.cst (.str ⟨#[102,111,114]⟩))),(6,1,(.cst (.str ⟨#[116,111]⟩))),(7,1,(.cst (.str ⟨#[111,117,116]⟩)))]⟩,
⟨some 3,none,.mv (.tmp 5)⟩])
(.seq (.seq (.reg [⟨some 4,none,.mv (.cst (.int .i64 0))⟩])
(.block 0
(.loop [0,3,4]
(.seq (.seq (.reg [⟨some 6,none,.mv (.tmp 4)⟩,
⟨some 7,none,.mv (.tmp 3)⟩,
⟨some 8,none,.len .i (.tmp 7)⟩,
⟨some 9,none,.bin .lss .plain (.tmp 6) (.tmp 8)⟩])
(.cond (.tmp 9)
(.skip)
(.brk 0)))
(.seq (.block 1
(.seq (.reg [⟨some 12,none,.mv (.tmp 0)⟩,
⟨some 13,none,.mv (.tmp 3)⟩,
⟨some 14,none,.mv (.tmp 4)⟩,
⟨some 15,none,.idxS (.tmp 13) (.tmp 14) 1⟩,
⟨some 16,none,.load (.tmp 15) 1 false⟩,
⟨some 17,none,.bin .eql .plain (.tmp 12) (.tmp 16)⟩])
(.cond (.tmp 17)
(.seq (.reg [⟨some 2,none,.mv (.cst (.bool true))⟩])
(.ret))
(.skip))))
(.reg [⟨some 10,none,.mv (.tmp 4)⟩,
⟨some 11,none,.bin .add .plain (.tmp 10) (.cst (.int .i64 1))⟩,
⟨some 4,none,.mv (.tmp 11)⟩]))))))
(.seq (.reg [⟨some 2,none,.mv (.cst (.bool false))⟩])
(.ret))))⟩
theorem tr58:trF Go.Proofs.Tryd.prog { obj:=[],bare:=[],loops:=[[0,3,4]],draws:=[],glob:=globs,fresh:=false } Go.Proofs.Tryd.f58=some ir58:=by kernel_rfl
def ir59:IFn:=⟨110,[.tmp 4 false],
.seq (.reg [⟨some 2,none,.box (.tmp 0) false⟩,
⟨some 4,none,.mv (.cst (.bool false))⟩])
(.seq (.seq (.reg [⟨some 8,none,.mv (.tmp 1)⟩,
⟨some 9,none,.bin .gtr .plain (.tmp 8) (.cst (.int .i64 24))⟩,
⟨some 10,none,.mv (.tmp 9)⟩,
⟨some 11,some (10,false),.fad (.tmp 2) 0⟩,
⟨some 12,some (10,false),.load (.tmp 11) 1 false⟩,
⟨some 13,some (10,false),.bin .lss .plain (.tmp 12) (.cst (.int .i64 1))⟩,
⟨some 14,none,.pick (.tmp 10) (.cst (.bool true)) (.tmp 13)⟩,
⟨some 15,none,.mv (.tmp 14)⟩,
⟨some 16,some (15,false),.fad (.tmp 2) 0⟩,
⟨some 17,some (15,false),.load (.tmp 16) 1 false⟩,
⟨some 18,some (15,false),.bin .gtr .plain (.tmp 17) (.cst (.int .i64 5))⟩,
⟨some 19,none,.pick (.tmp 15) (.cst (.bool true)) (.tmp 18)⟩])
(.cond (.tmp 19)
(.seq (.reg [⟨some 4,none,.mv (.cst (.bool false))⟩])
(.ret))
(.skip)))
(.seq (.reg [⟨some 5,none,.mv (.cst (.int .i64 1))⟩])
(.seq (.seq (.reg [⟨some 20,none,.fad (.tmp 2) 0⟩,
⟨some 21,none,.load (.tmp 20) 1 false⟩,
⟨some 22,none,.bin .eql .plain (.tmp 21) (.cst (.int .i64 2))⟩,
⟨some 23,none,.mv (.tmp 22)⟩,
⟨some 24,some (23,false),.fad (.tmp 2) 0⟩,
⟨some 25,some (23,false),.load (.tmp 24) 1 false⟩,
⟨some 26,some (23,false),.bin .eql .plain (.tmp 25) (.cst (.int .i64 4))⟩,
⟨some 27,none,.pick (.tmp 23) (.cst (.bool true)) (.tmp 26)⟩])
(.cond (.tmp 27)
(.reg [⟨some 5,none,.mv (.cst (.int .i64 2))⟩])
(.skip)))
(.seq (.reg [⟨some 28,none,.fad (.tmp 2) 0⟩,
⟨some 29,none,.load (.tmp 28) 1 false⟩,
⟨some 30,none,.bin .neq .plain (.tmp 29) (.cst (.int .i64 3))⟩,
⟨some 31,none,.mv (.tmp 30)⟩,
⟨some 32,some (31,true),.fad (.tmp 2) 0⟩,
⟨some 33,some (31,true),.load (.tmp 32) 1 false⟩,
⟨some 34,some (31,true),.bin .neq .plain (.tmp 33) (.cst (.int .i64 5))⟩,
⟨some 35,none,.pick (.tmp 31) (.tmp 34) (.cst (.bool false))⟩,
⟨some 6,none,.mv (.tmp 35)⟩])
(.seq (.seq (.reg [⟨some 36,none,.fad (.tmp 2) 2⟩,
⟨some 37,none,.load (.tmp 36) 1 false⟩,
⟨some 38,none,.len .i (.tmp 37)⟩,
⟨some 39,none,.mv (.tmp 5)⟩,
⟨some 40,none,.bin .neq .plain (.tmp 38) (.tmp 39)⟩,
⟨some 41,none,.mv (.tmp 40)⟩,
⟨some 42,some (41,false),.mv (.tmp 6)⟩,
⟨some 43,some (41,false),.mv (.tmp 42)⟩,
⟨some 44,some (43,true),.fad (.tmp 2) 1⟩,
⟨some 45,some (43,true),.load (.tmp 44) 1 false⟩,
⟨some 46,some (43,true),.call 40 [(.tmp 45)]⟩,
⟨some 47,some (43,true),.un .not (.tmp 46)⟩,
⟨some 48,some (41,false),.pick (.tmp 43) (.tmp 47) (.cst (.bool false))⟩,
⟨some 49,none,.pick (.tmp 41) (.cst (.bool true)) (.tmp 48)⟩,
⟨some 50,none,.mv (.tmp 49)⟩,
⟨some 51,some (50,false),.mv (.tmp 6)⟩,
⟨some 52,some (50,false),.un .not (.tmp 51)⟩,
⟨some 53,some (50,false),.mv (.tmp 52)⟩,
⟨some 54,some (53,true),.fad (.tmp 2) 1⟩,
⟨some 55,some (53,true),.load (.tmp 54) 1 false⟩,
⟨some 56,some (53,true),.bin .neq .plain (.tmp 55) (.cst (.str ⟨#[]⟩))⟩,
⟨some 57,some (50,false),.pick (.tmp 53) (.tmp 56) (.cst (.bool false))⟩,
⟨some 58,none,.pick (.tmp 50) (.cst (.bool true)) (.tmp 57)⟩])
(.cond (.tmp 58)
(.seq (.reg [⟨some 4,none,.mv (.cst (.bool false))⟩])
(.ret))
(.skip)))
(.seq (.seq (.reg [⟨some 59,none,.fad (.tmp 2) 0⟩,
⟨some 60,none,.load (.tmp 59) 1 false⟩,
⟨some 61,none,.bin .neq .plain (.tmp 60) (.cst (.int .i64 3))⟩,
⟨some 62,none,.mv (.tmp 61)⟩,
⟨some 63,some (62,true),.fad (.tmp 2) 4⟩,
⟨some 64,some (62,true),.load (.tmp 63) 1 false⟩,
⟨some 65,some (62,true),.len .i (.tmp 64)⟩,
⟨some 66,some (62,true),.bin .gtr .plain (.tmp 65) (.cst (.int .i64 0))⟩,
⟨some 67,none,.pick (.tmp 62) (.tmp 66) (.cst (.bool false))⟩,
⟨some 68,none,.mv (.tmp 67)⟩,
⟨some 69,some (68,false),.fad (.tmp 2) 0⟩,
⟨some 70,some (68,false),.load (.tmp 69) 1 false⟩,
⟨some 71,some (68,false),.bin .neq .plain (.tmp 70) (.cst (.int .i64 3))⟩,
⟨some 72,some (68,false),.mv (.tmp 71)⟩,
⟨some 73,some (72,true),.fad (.tmp 2) 0⟩,
⟨some 74,some (72,true),.load (.tmp 73) 1 false⟩,
⟨some 75,some (72,true),.bin .neq .plain (.tmp 74) (.cst (.int .i64 4))⟩,
⟨some 76,some (68,false),.pick (.tmp 72) (.tmp 75) (.cst (.bool false))⟩,
⟨some 77,some (68,false),.mv (.tmp 76)⟩,
⟨some 78,some (77,true),.fad (.tmp 2) 3⟩,
⟨some 79,some (77,true),.load (.tmp 78) 1 false⟩,
⟨some 80,some (77,true),.len .i (.tmp 79)⟩,
⟨some 81,some (77,true),.bin .gtr .plain (.tmp 80) (.cst (.int .i64 0))⟩,
⟨some 82,some (68,false),.pick (.tmp 77) (.tmp 81) (.cst (.bool false))⟩,
⟨some 83,none,.pick (.tmp 68) (.cst (.bool true)) (.tmp 82)⟩])
(.cond (.tmp 83)
(.seq (.reg [⟨some 4,none,.mv (.cst (.bool false))⟩])
(.ret))
(.skip)))
(.seq (.seq (.reg [⟨some 7,none,.mv (.cst (.int .i64 0))⟩])
(.block 0
(.loop [1,2,5,7]
(.seq (.seq (.reg [⟨some 84,none,.mv (.tmp 7)⟩,
⟨some 85,none,.mv (.tmp 5)⟩,
⟨some 86,none,.bin .lss .plain (.tmp 84) (.tmp 85)⟩])
(.cond (.tmp 86)
(.skip)
(.brk 0)))
(.seq (.block 1
(.seq (.reg [⟨some 89,none,.fad (.tmp 2) 2⟩,
⟨some 90,none,.load (.tmp 89) 1 false⟩,
⟨some 91,none,.mv (.tmp 7)⟩,
⟨some 92,none,.idxS (.tmp 90) (.tmp 91) 5⟩,
⟨some 93,none,.load (.tmp 92) 5 true⟩,
⟨some 94,none,.mv (.tmp 1)⟩,
⟨some 95,none,.bin .add .plain (.tmp 94) (.cst (.int .i64 1))⟩,
⟨some 96,none,.call 70 [(.tmp 93),(.tmp 95)]⟩,
⟨some 97,none,.un .not (.tmp 96)⟩])
(.cond (.tmp 97)
(.seq (.reg [⟨some 4,none,.mv (.cst (.bool false))⟩])
(.ret))
(.skip))))
(.reg [⟨some 87,none,.mv (.tmp 7)⟩,
⟨some 88,none,.bin .add .plain (.tmp 87) (.cst (.int .i64 1))⟩,
⟨some 7,none,.mv (.tmp 88)⟩]))))))
(.seq (.reg [⟨some 98,none,.fad (.tmp 2) 3⟩,
⟨some 99,none,.load (.tmp 98) 1 false⟩,
⟨some 100,none,.mv (.tmp 1)⟩,
⟨some 101,none,.bin .add .plain (.tmp 100) (.cst (.int .i64 1))⟩,
⟨some 102,none,.call 41 [(.tmp 99),(.tmp 101)]⟩,
⟨some 103,none,.mv (.tmp 102)⟩,
⟨some 104,some (103,true),.fad (.tmp 2) 4⟩,
⟨some 105,some (103,true),.load (.tmp 104) 1 false⟩,
⟨some 106,some (103,true),.mv (.tmp 1)⟩,
⟨some 107,some (103,true),.bin .add .plain (.tmp 106) (.cst (.int .i64 1))⟩,
⟨some 108,some (103,true),.call 41 [(.tmp 105),(.tmp 107)]⟩,
⟨some 109,none,.pick (.tmp 103) (.tmp 108) (.cst (.bool false))⟩,
⟨some 4,none,.mv (.tmp 109)⟩])
(.ret)))))))))⟩
theorem tr59:trF Go.Proofs.Tryd.prog { obj:=[],bare:=[],loops:=[[1,2,5,7]],draws:=[],glob:=globs,fresh:=false } Go.Proofs.Tryd.f59=some ir59:=by kernel_rfl
def ir60:IFn:=⟨6,[.tmp 2 false],
.seq (.reg [⟨some 2,none,.mv (.cst (.str ⟨#[]⟩))⟩])
(.seq (.reg [⟨some 3,none,.mv (.tmp 0)⟩,
⟨some 4,none,.cvI .u64 (.tmp 3)⟩,
⟨some 5,none,.call 71 [(.tmp 4)]⟩,
⟨some 2,none,.mv (.tmp 5)⟩])
(.ret))⟩
theorem tr60:trF Go.Proofs.Tryd.prog { obj:=[],bare:=[],loops:=[],draws:=[],glob:=globs,fresh:=false } Go.Proofs.Tryd.f60=some ir60:=by kernel_rfl
def ir61:IFn:=⟨141,[.tmp 4 false],
.seq (.reg [⟨some 4,none,.mv (.cst (.str ⟨#[]⟩))⟩])
(.seq (.reg [⟨some 5,none,.mv (.cst (.str ⟨#[]⟩))⟩])
(.seq (.seq (.reg [⟨some 6,none,.mv (.cst (.int .i64 0))⟩])
(.block 0
(.loop [0,1,5,6]
(.seq (.seq (.reg [⟨some 8,none,.mv (.tmp 6)⟩,
⟨some 9,none,.mv (.tmp 0)⟩,
⟨some 10,none,.len .i (.tmp 9)⟩,
⟨some 11,none,.bin .lss .plain (.tmp 8) (.tmp 10)⟩])
(.cond (.tmp 11)
(.skip)
(.brk 0)))
(.seq (.block 1
(.seq (.reg [⟨some 14,none,.mv (.tmp 0)⟩,
⟨some 15,none,.mv (.tmp 6)⟩,
⟨some 16,none,.idxS (.tmp 14) (.tmp 15) 5⟩,
⟨some 17,none,.load (.tmp 16) 5 true⟩,
⟨some 7,none,.allocz [(.int .i64 0),(.str ⟨#[]⟩),(.vec [] .full),(.vec [] .full),(.vec [] .full)] false⟩,
⟨none,none,.store (.tmp 7) (.tmp 17) 5⟩])
(.seq (.reg [⟨some 18,none,.fad (.tmp 7) 0⟩,
⟨some 19,none,.load (.tmp 18) 1 false⟩])
(.block 2
(.seq (.reg [⟨some 52,none,.bin .eql .plain (.tmp 19) (.cst (.int .i64 1))⟩,
⟨some 51,none,.mv (.tmp 52)⟩])
(.cond (.tmp 51)
(.draw [(⟨some 53,none,.mv (.tmp 5)⟩,0,[]),
(⟨some 54,none,.mv (.tmp 1)⟩,1,[]),
(⟨some 55,none,.bin .add .plain (.tmp 53) (.tmp 54)⟩,2,[]),
(⟨some 56,none,.fad (.tmp 7) 1⟩,3,[]),
(⟨some 57,none,.load (.tmp 56) 1 false⟩,4,[]),
(⟨some 58,none,.bin .add .plain (.tmp 55) (.tmp 57)⟩,5,[]),
(⟨some 59,none,.bin .add .plain (.tmp 58) (.cst (.str ⟨#[32,61,32]⟩))⟩,6,[]),
(⟨some 60,none,.fad (.tmp 7) 2⟩,7,[]),
(⟨some 61,none,.load (.tmp 60) 1 false⟩,8,[]),
(⟨some 62,none,.idxS (.tmp 61) (.cst (.int .i64 0)) 5⟩,9,[]),
(⟨some 63,none,.load (.tmp 62) 5 true⟩,10,[]),
(⟨some 64,none,.call 72 [(.tmp 63)]⟩,11,[4]),
(⟨some 65,none,.bin .add .plain (.tmp 59) (.tmp 64)⟩,12,[]),
(⟨some 66,none,.bin .add .plain (.tmp 65) (.cst (.str ⟨#[59,10]⟩))⟩,13,[]),
(⟨some 5,none,.mv (.tmp 66)⟩,14,[])])
(.seq (.reg [⟨some 68,none,.bin .eql .plain (.tmp 19) (.cst (.int .i64 2))⟩,
⟨some 67,none,.mv (.tmp 68)⟩])
(.cond (.tmp 67)
(.draw [(⟨some 69,none,.mv (.tmp 5)⟩,0,[]),
(⟨some 70,none,.mv (.tmp 1)⟩,1,[]),
(⟨some 71,none,.bin .add .plain (.tmp 69) (.tmp 70)⟩,2,[]),
(⟨some 72,none,.fad (.tmp 7) 1⟩,3,[]),
(⟨some 73,none,.load (.tmp 72) 1 false⟩,4,[]),
(⟨some 74,none,.bin .add .plain (.tmp 71) (.tmp 73)⟩,5,[]),
(⟨some 75,none,.bin .add .plain (.tmp 74) (.cst (.str ⟨#[91]⟩))⟩,6,[]),
(⟨some 76,none,.fad (.tmp 7) 2⟩,7,[]),
(⟨some 77,none,.load (.tmp 76) 1 false⟩,8,[]),
(⟨some 78,none,.idxS (.tmp 77) (.cst (.int .i64 0)) 5⟩,9,[]),
(⟨some 79,none,.load (.tmp 78) 5 true⟩,10,[]),
(⟨some 83,none,.fad (.tmp 7) 2⟩,14,[]),
(⟨some 84,none,.load (.tmp 83) 1 false⟩,15,[]),
(⟨some 85,none,.idxS (.tmp 84) (.cst (.int .i64 1)) 5⟩,16,[]),
(⟨some 86,none,.load (.tmp 85) 5 true⟩,17,[]),
(⟨some 80,none,.call 72 [(.tmp 79)]⟩,11,[4,12,14]),
(⟨some 81,none,.bin .add .plain (.tmp 75) (.tmp 80)⟩,12,[]),
(⟨some 82,none,.bin .add .plain (.tmp 81) (.cst (.str ⟨#[93,32,61,32]⟩))⟩,13,[]),
(⟨some 87,none,.call 72 [(.tmp 86)]⟩,18,[4]),
(⟨some 88,none,.bin .add .plain (.tmp 82) (.tmp 87)⟩,19,[]),
(⟨some 89,none,.bin .add .plain (.tmp 88) (.cst (.str ⟨#[59,10]⟩))⟩,20,[]),
(⟨some 5,none,.mv (.tmp 89)⟩,21,[])])
(.seq (.reg [⟨some 91,none,.bin .eql .plain (.tmp 19) (.cst (.int .i64 5))⟩,
⟨some 90,none,.mv (.tmp 91)⟩])
(.cond (.tmp 90)
(.reg [⟨some 92,none,.mv (.tmp 5)⟩,
⟨some 93,none,.mv (.tmp 1)⟩,
⟨some 94,none,.bin .add .plain (.tmp 92) (.tmp 93)⟩,
⟨some 95,none,.bin .add .plain (.tmp 94) (.cst (.str ⟨#[111,117,116,32]⟩))⟩,
⟨some 96,none,.fad (.tmp 7) 2⟩,
⟨some 97,none,.load (.tmp 96) 1 false⟩,
⟨some 98,none,.idxS (.tmp 97) (.cst (.int .i64 0)) 5⟩,
⟨some 99,none,.load (.tmp 98) 5 true⟩,
⟨some 100,none,.call 72 [(.tmp 99)]⟩,
⟨some 101,none,.bin .add .plain (.tmp 95) (.tmp 100)⟩,
⟨some 102,none,.bin .add .plain (.tmp 101) (.cst (.str ⟨#[59,10]⟩))⟩,
⟨some 5,none,.mv (.tmp 102)⟩])
(.seq (.reg [⟨some 104,none,.bin .eql .plain (.tmp 19) (.cst (.int .i64 3))⟩,
⟨some 103,none,.mv (.tmp 104)⟩])
(.cond (.tmp 103)
(.seq (.draw [(⟨some 105,none,.mv (.tmp 5)⟩,0,[]),
(⟨some 106,none,.mv (.tmp 1)⟩,1,[]),
(⟨some 107,none,.bin .add .plain (.tmp 105) (.tmp 106)⟩,2,[]),
(⟨some 108,none,.bin .add .plain (.tmp 107) (.cst (.str ⟨#[105,102,32,40]⟩))⟩,3,[]),
(⟨some 109,none,.fad (.tmp 7) 2⟩,4,[]),
(⟨some 110,none,.load (.tmp 109) 1 false⟩,5,[]),
(⟨some 111,none,.idxS (.tmp 110) (.cst (.int .i64 0)) 5⟩,6,[]),
(⟨some 112,none,.load (.tmp 111) 5 true⟩,7,[]),
(⟨some 116,none,.fad (.tmp 7) 3⟩,11,[]),
(⟨some 117,none,.load (.tmp 116) 1 false⟩,12,[]),
(⟨some 118,none,.mv (.tmp 1)⟩,13,[]),
(⟨some 119,none,.bin .add .plain (.tmp 118) (.cst (.str ⟨#[32,32]⟩))⟩,14,[]),
(⟨some 113,none,.call 72 [(.tmp 112)]⟩,8,[9]),
(⟨some 114,none,.bin .add .plain (.tmp 108) (.tmp 113)⟩,9,[]),
(⟨some 115,none,.bin .add .plain (.tmp 114) (.cst (.str ⟨#[41,32,123,10]⟩))⟩,10,[]),
(⟨some 120,none,.call 61 [(.tmp 117),(.tmp 119)]⟩,15,[]),
(⟨some 121,none,.bin .add .plain (.tmp 115) (.tmp 120)⟩,16,[]),
(⟨some 5,none,.mv (.tmp 121)⟩,17,[])])
(.seq (.seq (.reg [⟨some 122,none,.fad (.tmp 7) 4⟩,
⟨some 123,none,.load (.tmp 122) 1 false⟩,
⟨some 124,none,.len .i (.tmp 123)⟩,
⟨some 125,none,.bin .gtr .plain (.tmp 124) (.cst (.int .i64 0))⟩])
(.cond (.tmp 125)
(.reg [⟨some 126,none,.mv (.tmp 5)⟩,
⟨some 127,none,.mv (.tmp 1)⟩,
⟨some 128,none,.bin .add .plain (.tmp 126) (.tmp 127)⟩,
⟨some 129,none,.bin .add .plain (.tmp 128) (.cst (.str ⟨#[125,32,101,108,115,101,32,123,10]⟩))⟩,
⟨some 130,none,.fad (.tmp 7) 4⟩,
⟨some 131,none,.load (.tmp 130) 1 false⟩,
⟨some 132,none,.mv (.tmp 1)⟩,
⟨some 133,none,.bin .add .plain (.tmp 132) (.cst (.str ⟨#[32,32]⟩))⟩,
⟨some 134,none,.call 61 [(.tmp 131),(.tmp 133)]⟩,
⟨some 135,none,.bin .add .plain (.tmp 129) (.tmp 134)⟩,
⟨some 5,none,.mv (.tmp 135)⟩])
(.skip)))
(.reg [⟨some 136,none,.mv (.tmp 5)⟩,
⟨some 137,none,.mv (.tmp 1)⟩,
⟨some 138,none,.bin .add .plain (.tmp 136) (.tmp 137)⟩,
⟨some 139,none,.bin .add .plain (.tmp 138) (.cst (.str ⟨#[125,10]⟩))⟩,
⟨some 5,none,.mv (.tmp 139)⟩])))
(.draw [(⟨some 20,none,.mv (.tmp 5)⟩,0,[]),
(⟨some 21,none,.mv (.tmp 1)⟩,1,[]),
(⟨some 22,none,.bin .add .plain (.tmp 20) (.tmp 21)⟩,2,[]),
(⟨some 23,none,.bin .add .plain (.tmp 22) (.cst (.str ⟨#[102,111,114,32]⟩))⟩,3,[]),
(⟨some 24,none,.fad (.tmp 7) 1⟩,4,[]),
(⟨some 25,none,.load (.tmp 24) 1 false⟩,5,[]),
(⟨some 26,none,.bin .add .plain (.tmp 23) (.tmp 25)⟩,6,[]),
(⟨some 27,none,.bin .add .plain (.tmp 26) (.cst (.str ⟨#[32,61,32]⟩))⟩,7,[]),
(⟨some 28,none,.fad (.tmp 7) 2⟩,8,[]),
(⟨some 29,none,.load (.tmp 28) 1 false⟩,9,[]),
(⟨some 30,none,.idxS (.tmp 29) (.cst (.int .i64 0)) 5⟩,10,[]),
(⟨some 31,none,.load (.tmp 30) 5 true⟩,11,[]),
(⟨some 35,none,.fad (.tmp 7) 2⟩,15,[]),
(⟨some 36,none,.load (.tmp 35) 1 false⟩,16,[]),
(⟨some 37,none,.idxS (.tmp 36) (.cst (.int .i64 1)) 5⟩,17,[]),
(⟨some 38,none,.load (.tmp 37) 5 true⟩,18,[]),
(⟨some 42,none,.fad (.tmp 7) 3⟩,22,[]),
(⟨some 43,none,.load (.tmp 42) 1 false⟩,23,[]),
(⟨some 44,none,.mv (.tmp 1)⟩,24,[]),
(⟨some 45,none,.bin .add .plain (.tmp 44) (.cst (.str ⟨#[32,32]⟩))⟩,25,[]),
(⟨some 48,none,.mv (.tmp 1)⟩,28,[]),
(⟨some 32,none,.call 72 [(.tmp 31)]⟩,12,[5,13,15,17]),
(⟨some 33,none,.bin .add .plain (.tmp 27) (.tmp 32)⟩,13,[]),
(⟨some 34,none,.bin .add .plain (.tmp 33) (.cst (.str ⟨#[32,116,111,32]⟩))⟩,14,[]),
(⟨some 39,none,.call 72 [(.tmp 38)]⟩,19,[5,17]),
(⟨some 40,none,.bin .add .plain (.tmp 34) (.tmp 39)⟩,20,[]),
(⟨some 41,none,.bin .add .plain (.tmp 40) (.cst (.str ⟨#[32,123,10]⟩))⟩,21,[]),
(⟨some 46,none,.call 61 [(.tmp 43),(.tmp 45)]⟩,26,[5]),
(⟨some 47,none,.bin .add .plain (.tmp 41) (.tmp 46)⟩,27,[]),
(⟨some 49,none,.bin .add .plain (.tmp 47) (.tmp 48)⟩,29,[]),
(⟨some 50,none,.bin .add .plain (.tmp 49) (.cst (.str ⟨#[125,10]⟩))⟩,30,[]),
(⟨some 5,none,.mv (.tmp 50)⟩,31,[])])))))))))))))
(.reg [⟨some 12,none,.mv (.tmp 6)⟩,
⟨some 13,none,.bin .add .plain (.tmp 12) (.cst (.int .i64 1))⟩,
⟨some 6,none,.mv (.tmp 13)⟩]))))))
(.seq (.reg [⟨some 140,none,.mv (.tmp 5)⟩,
⟨some 4,none,.mv (.tmp 140)⟩])
(.ret))))⟩
theorem tr61:trF Go.Proofs.Tryd.prog { obj:=[],bare:=[],loops:=[[0,1,5,6]],draws:=[(9,([0,0,3,0,8,31,63,0,128,384,896,1920,4095,8191,16383],[(0,[]),(1,[]),(2,[]),(3,[]),(4,[]),(5,[]),(6,[]),(7,[]),(8,[]),(9,[]),(10,[]),(11,[4]),(12,[]),(13,[]),(14,[])])),(11,([0,0,3,0,8,31,63,0,128,384,896,1920,4095,8191,0,16384,49152,114688,249728,524287,1048575,2097151],[(0,[]),(1,[]),(2,[]),(3,[]),(4,[]),(5,[]),(6,[]),(7,[]),(8,[]),(9,[]),(10,[]),(14,[]),(15,[]),(16,[]),(17,[]),(11,[4,12,14]),(12,[]),(13,[]),(18,[4]),(19,[]),(20,[]),(21,[])])),(15,([0,0,3,7,0,16,48,112,240,511,1023,0,2048,0,8192,31216,65535,131071],[(0,[]),(1,[]),(2,[]),(3,[]),(4,[]),(5,[]),(6,[]),(7,[]),(11,[]),(12,[]),(13,[]),(14,[]),(8,[9]),(9,[]),(10,[]),(15,[]),(16,[]),(17,[])])),(7,([0,0,3,7,0,16,63,127,0,256,768,1792,3840,8191,16383,0,32768,98304,229376,499456,1048575,2097151,0,4194304,0,16777216,63938304,134217727,0,536870911,1073741823,2147483647],[(0,[]),(1,[]),(2,[]),(3,[]),(4,[]),(5,[]),(6,[]),(7,[]),(8,[]),(9,[]),(10,[]),(11,[]),(15,[]),(16,[]),(17,[]),(18,[]),(22,[]),(23,[]),(24,[]),(25,[]),(28,[]),(12,[5,13,15,17]),(13,[]),(14,[]),(19,[5,17]),(20,[]),(21,[]),(26,[5]),(27,[]),(29,[]),(30,[]),(31,[])]))],glob:=globs,fresh:=false } Go.Proofs.Tryd.f61=some ir61:=by kernel_rfl
def ir62:IFn:=⟨4,[.tmp 2 false],
.seq (.reg [⟨some 2,none,.mv (.cst (.int .u64 0))⟩])
(.seq (.seq (.reg [⟨some 3,none,.mv (.tmp 0)⟩])
(.cond (.tmp 3)
(.seq (.reg [⟨some 2,none,.mv (.cst (.int .u64 1))⟩])
(.ret))
(.skip)))
(.seq (.reg [⟨some 2,none,.mv (.cst (.int .u64 0))⟩])
(.ret)))⟩
theorem tr62:trF Go.Proofs.Tryd.prog { obj:=[],bare:=[],loops:=[],draws:=[],glob:=globs,fresh:=false } Go.Proofs.Tryd.f62=some ir62:=by kernel_rfl
def ir65:IFn:=⟨25,[.tmp 2 false],
.seq (.reg [⟨some 2,none,.mv (.cst (.int .i64 0))⟩])
(.seq (.seq (.reg [⟨some 3,none,.mv (.tmp 0)⟩,
⟨some 4,none,.bin .geq .plain (.tmp 3) (.cst (.int .u64 4294967296))⟩])
(.cond (.tmp 4)
(.seq (.reg [⟨some 5,none,.mv (.tmp 0)⟩,
⟨some 6,none,.bin .shr .plain (.tmp 5) (.cst (.int .u64 32))⟩,
⟨some 0,none,.mv (.tmp 6)⟩])
(.reg [⟨some 2,none,.mv (.cst (.int .i64 32))⟩]))
(.skip)))
(.seq (.seq (.reg [⟨some 7,none,.mv (.tmp 0)⟩,
⟨some 8,none,.bin .geq .plain (.tmp 7) (.cst (.int .u64 65536))⟩])
(.cond (.tmp 8)
(.seq (.reg [⟨some 9,none,.mv (.tmp 0)⟩,
⟨some 10,none,.bin .shr .plain (.tmp 9) (.cst (.int .u64 16))⟩,
⟨some 0,none,.mv (.tmp 10)⟩])
(.reg [⟨some 11,none,.mv (.tmp 2)⟩,
⟨some 12,none,.bin .add .plain (.tmp 11) (.cst (.int .i64 16))⟩,
⟨some 2,none,.mv (.tmp 12)⟩]))
(.skip)))
(.seq (.seq (.reg [⟨some 13,none,.mv (.tmp 0)⟩,
⟨some 14,none,.bin .geq .plain (.tmp 13) (.cst (.int .u64 256))⟩])
(.cond (.tmp 14)
(.seq (.reg [⟨some 15,none,.mv (.tmp 0)⟩,
⟨some 16,none,.bin .shr .plain (.tmp 15) (.cst (.int .u64 8))⟩,
⟨some 0,none,.mv (.tmp 16)⟩])
(.reg [⟨some 17,none,.mv (.tmp 2)⟩,
⟨some 18,none,.bin .add .plain (.tmp 17) (.cst (.int .i64 8))⟩,
⟨some 2,none,.mv (.tmp 18)⟩]))
(.skip)))
(.seq (.reg [⟨some 19,none,.mv (.tmp 2)⟩,
⟨some 20,none,.mv (.tmp 0)⟩,
⟨some 21,none,.cvI .u8 (.tmp 20)⟩,
⟨some 22,none,.idxStr (.cst (.str bytes0)) (.tmp 21)⟩,
⟨some 23,none,.cvI .i64 (.tmp 22)⟩,
⟨some 24,none,.bin .add .plain (.tmp 19) (.tmp 23)⟩,
⟨some 2,none,.mv (.tmp 24)⟩])
(.ret)))))⟩
theorem tr65:trF Go.Proofs.Tryd.prog { obj:=[],bare:=[],loops:=[],draws:=[],glob:=globs,fresh:=false } Go.Proofs.Tryd.f65=some ir65:=by kernel_rfl
def ir66:IFn:=⟨15,[],
.seq (.seq (.reg [⟨some 2,none,.mv (.tmp 0)⟩,
⟨some 3,none,.nilc (.tmp 2)⟩,
⟨some 4,none,.fad (.tmp 3) 5⟩,
⟨some 5,none,.load (.tmp 4) 1 false⟩,
⟨some 6,none,.bin .geq .plain (.tmp 5) (.cst (.int .i64 10000))⟩])
(.cond (.tmp 6)
(.reg [⟨some 7,none,.call 53 [(.cst (.int .i64 2))]⟩])
(.skip)))
(.reg [⟨some 8,none,.mv (.tmp 0)⟩,
⟨some 9,none,.nilc (.tmp 8)⟩,
⟨some 10,none,.fad (.tmp 9) 5⟩,
⟨some 11,none,.load (.tmp 10) 1 false⟩,
⟨some 12,none,.bin .add .plain (.tmp 11) (.cst (.int .i64 1))⟩,
⟨some 13,none,.nilc (.tmp 8)⟩,
⟨some 14,none,.fad (.tmp 13) 5⟩,
⟨none,none,.store (.tmp 14) (.tmp 12) 1⟩])⟩
theorem tr66:trF Go.Proofs.Tryd.prog { obj:=[],bare:=[],loops:=[],draws:=[],glob:=globs,fresh:=false } Go.Proofs.Tryd.f66=some ir66:=by kernel_rfl
def ir67:IFn:=⟨101,[],
.seq (.reg [⟨some 4,none,.box (.tmp 1) false⟩])
(.seq (.reg [⟨some 9,none,.fad (.tmp 4) 0⟩,
⟨some 10,none,.load (.tmp 9) 1 false⟩])
(.block 0
(.seq (.reg [⟨some 12,none,.bin .eql .plain (.tmp 10) (.cst (.int .i64 1))⟩,
⟨some 11,none,.mv (.tmp 12)⟩])
(.cond (.tmp 11)
(.seq (.seq (.reg [⟨some 13,none,.mv (.tmp 0)⟩,
⟨some 14,none,.fad (.tmp 4) 1⟩,
⟨some 15,none,.load (.tmp 14) 1 false⟩,
⟨some 16,none,.call 52 [(.tmp 13),(.tmp 15)]⟩])
(.cond (.tmp 16)
(.reg [⟨some 17,none,.call 53 [(.cst (.int .i64 4))]⟩])
(.skip)))
(.draw [(⟨some 18,none,.mv (.tmp 0)⟩,0,[]),
(⟨some 19,none,.nilc (.tmp 18)⟩,1,[]),
(⟨some 20,none,.fad (.tmp 19) 2⟩,2,[]),
(⟨some 21,none,.load (.tmp 20) 1 false⟩,3,[]),
(⟨some 22,none,.fad (.tmp 4) 1⟩,4,[]),
(⟨some 23,none,.load (.tmp 22) 1 false⟩,5,[]),
(⟨some 24,none,.mv (.tmp 2)⟩,6,[]),
(⟨some 25,none,.idxS (.tmp 24) (.cst (.int .i64 0)) 4⟩,7,[]),
(⟨some 26,none,.fad (.tmp 25) 0⟩,8,[]),
(⟨some 27,none,.load (.tmp 26) 1 false⟩,9,[]),
(⟨some 28,none,.mv (.tmp 2)⟩,10,[]),
(⟨some 29,none,.idxS (.tmp 28) (.cst (.int .i64 0)) 4⟩,11,[]),
(⟨some 30,none,.fad (.tmp 29) 1⟩,12,[]),
(⟨some 31,none,.load (.tmp 30) 1 false⟩,13,[]),
(⟨some 32,none,.bld [(.int .i64 0),(.int .i64 0),(.bool false),(.int .u64 0)] [(0,1,(.tmp 27)),(1,1,(.tmp 31))]⟩,14,[]),
(⟨none,none,.mup .s (.tmp 21) (.tmp 23) (.tmp 32)⟩,15,[])]))
(.seq (.reg [⟨some 34,none,.bin .eql .plain (.tmp 10) (.cst (.int .i64 2))⟩,
⟨some 33,none,.mv (.tmp 34)⟩])
(.cond (.tmp 33)
(.seq (.draw [(⟨some 36,none,.mv (.tmp 0)⟩,0,[]),
(⟨some 37,none,.nilc (.tmp 36)⟩,1,[]),
(⟨some 38,none,.fad (.tmp 37) 1⟩,2,[]),
(⟨some 39,none,.load (.tmp 38) 1 false⟩,3,[]),
(⟨some 40,none,.fad (.tmp 4) 1⟩,4,[]),
(⟨some 41,none,.load (.tmp 40) 1 false⟩,5,[]),
(⟨some 42,none,.lkp .s (.tmp 39) (.tmp 41) (.int .i64 0) true⟩,6,[]),
(⟨some 35,none,.mv (.tmp 42)⟩,7,[]),
(⟨some 43,none,.ext (.tmp 35) 0⟩,8,[]),
(⟨some 44,none,.ext (.tmp 35) 1⟩,9,[]),
(⟨some 6,none,.mv (.tmp 43)⟩,10,[]),
(⟨some 7,none,.mv (.tmp 44)⟩,11,[])])
(.seq (.seq (.reg [⟨some 45,none,.mv (.tmp 7)⟩,
⟨some 46,none,.un .not (.tmp 45)⟩])
(.cond (.tmp 46)
(.reg [⟨some 47,none,.call 53 [(.cst (.int .i64 4))]⟩])
(.skip)))
(.seq (.reg [⟨some 48,none,.mv (.tmp 2)⟩,
⟨some 49,none,.idxS (.tmp 48) (.cst (.int .i64 0)) 4⟩,
⟨some 50,none,.load (.tmp 49) 4 true⟩,
⟨some 51,none,.mv (.tmp 6)⟩,
⟨some 52,none,.call 76 [(.tmp 50),(.tmp 51)]⟩,
⟨some 8,none,.mv (.tmp 52)⟩])
(.seq (.reg [⟨some 53,none,.mv (.tmp 2)⟩,
⟨some 54,none,.idxS (.tmp 53) (.cst (.int .i64 1)) 4⟩,
⟨some 55,none,.load (.tmp 54) 4 true⟩,
⟨some 56,none,.call 77 [(.tmp 55),(.cst (.int .i64 1))]⟩])
(.draw [(⟨some 57,none,.mv (.tmp 0)⟩,0,[]),
(⟨some 58,none,.nilc (.tmp 57)⟩,1,[]),
(⟨some 59,none,.fad (.tmp 58) 3⟩,2,[]),
(⟨some 60,none,.load (.tmp 59) 1 false⟩,3,[]),
(⟨some 61,none,.fad (.tmp 4) 1⟩,4,[]),
(⟨some 62,none,.load (.tmp 61) 1 false⟩,5,[]),
(⟨some 63,none,.lkp .s (.tmp 60) (.tmp 62) (.vec [] .full) false⟩,6,[]),
(⟨some 64,none,.mv (.tmp 8)⟩,7,[]),
(⟨some 65,none,.mv (.tmp 2)⟩,8,[]),
(⟨some 66,none,.idxS (.tmp 65) (.cst (.int .i64 1)) 4⟩,9,[]),
(⟨some 67,none,.fad (.tmp 66) 1⟩,10,[]),
(⟨some 68,none,.load (.tmp 67) 1 false⟩,11,[]),
(⟨some 69,none,.idxS (.tmp 63) (.tmp 64) 1⟩,12,[]),
(⟨none,none,.store (.tmp 69) (.tmp 68) 1⟩,13,[])])))))
(.seq (.reg [⟨some 71,none,.bin .eql .plain (.tmp 10) (.cst (.int .i64 3))⟩,
⟨some 70,none,.mv (.tmp 71)⟩])
(.cond (.tmp 70)
(.seq (.reg [⟨some 72,none,.mv (.tmp 2)⟩,
⟨some 73,none,.idxS (.tmp 72) (.cst (.int .i64 0)) 4⟩,
⟨some 74,none,.load (.tmp 73) 4 true⟩,
⟨some 75,none,.call 77 [(.tmp 74),(.cst (.int .i64 2))]⟩])
(.reg [⟨some 76,none,.mv (.tmp 0)⟩,
⟨some 77,none,.fad (.tmp 4) 3⟩,
⟨some 78,none,.load (.tmp 77) 1 false⟩,
⟨some 79,none,.fad (.tmp 4) 4⟩,
⟨some 80,none,.load (.tmp 79) 1 false⟩,
⟨some 81,none,.call 78 [(.tmp 76),(.tmp 78),(.tmp 80)]⟩]))
(.seq (.reg [⟨some 83,none,.bin .eql .plain (.tmp 10) (.cst (.int .i64 4))⟩,
⟨some 82,none,.mv (.tmp 83)⟩])
(.cond (.tmp 82)
(.draw [(⟨some 84,none,.mv (.tmp 0)⟩,0,[]),
(⟨some 85,none,.load (.tmp 4) 5 true⟩,1,[]),
(⟨some 86,none,.mv (.tmp 2)⟩,2,[]),
(⟨some 87,none,.idxS (.tmp 86) (.cst (.int .i64 0)) 4⟩,3,[]),
(⟨some 88,none,.load (.tmp 87) 4 true⟩,4,[]),
(⟨some 89,none,.mv (.tmp 2)⟩,5,[]),
(⟨some 90,none,.idxS (.tmp 89) (.cst (.int .i64 1)) 4⟩,6,[]),
(⟨some 91,none,.load (.tmp 90) 4 true⟩,7,[]),
(⟨some 92,none,.call 79 [(.tmp 84),(.tmp 85),(.tmp 88),(.tmp 91)]⟩,8,[])])
(.seq (.reg [⟨some 94,none,.bin .eql .plain (.tmp 10) (.cst (.int .i64 5))⟩,
⟨some 93,none,.mv (.tmp 94)⟩])
(.cond (.tmp 93)
(.seq (.reg [⟨some 95,none,.mv (.tmp 0)⟩,
⟨some 96,none,.nilc (.tmp 95)⟩,
⟨some 97,none,.fad (.tmp 96) 7⟩,
⟨some 98,none,.load (.tmp 97) 1 false⟩,
⟨some 99,none,.bin .gtr .plain (.tmp 98) (.cst (.int .i64 0))⟩])
(.cond (.tmp 99)
(.reg [⟨some 100,none,.call 53 [(.cst (.int .i64 1))]⟩])
(.skip)))
(.skip)))))))))))))⟩
theorem tr67:trF Go.Proofs.Tryd.prog { obj:=[],bare:=[],loops:=[],draws:=[(5,([0,1,3,7,0,16,0,64,192,448,0,1024,3072,7168,16320,32767],[(0,[]),(1,[]),(2,[]),(3,[]),(4,[]),(5,[]),(6,[]),(7,[]),(8,[]),(9,[]),(10,[]),(11,[]),(12,[]),(13,[]),(14,[]),(15,[])])),(7,([0,1,3,7,0,16,63,127,255,255,511,2047],[(0,[]),(1,[]),(2,[]),(3,[]),(4,[]),(5,[]),(6,[]),(7,[]),(8,[]),(9,[]),(10,[]),(11,[])])),(12,([0,1,3,7,0,16,63,0,0,256,768,1792,4095,8191],[(0,[]),(1,[]),(2,[]),(3,[]),(4,[]),(5,[]),(6,[]),(7,[]),(8,[]),(9,[]),(10,[]),(11,[]),(12,[]),(13,[])])),(17,([0,0,0,4,12,0,32,96,255],[(0,[]),(1,[]),(2,[]),(3,[]),(4,[]),(5,[]),(6,[]),(7,[]),(8,[])]))],glob:=globs,fresh:=false } Go.Proofs.Tryd.f67=some ir67:=by kernel_rfl
def ir68:IFn:=⟨22,[.tmp 4 false],
.seq (.reg [⟨some 4,none,.mv (.cst (.vec [] .full))⟩])
(.seq (.reg [⟨some 5,none,.mv (.cst (.vec [] .full))⟩])
(.seq (.seq (.reg [⟨some 8,none,.mv (.tmp 1)⟩,
⟨some 9,none,.len .i (.tmp 8)⟩,
⟨some 10,none,.mv (.cst (.int .i64 0))⟩])
(.block 0
(.loop [0,5,8,9,10]
(.seq (.reg [⟨some 11,none,.bin .lss .plain (.tmp 10) (.tmp 9)⟩])
(.seq (.cond (.tmp 11)
(.skip)
(.brk 0))
(.seq (.block 1
(.seq (.reg [⟨some 12,none,.idxS (.tmp 8) (.tmp 10) 5⟩,
⟨some 13,none,.load (.tmp 12) 5 true⟩,
⟨some 7,none,.allocz [(.int .i64 0),(.int .i64 0),(.int .u64 0),(.str ⟨#[]⟩),(.vec [] .full)] false⟩,
⟨none,none,.store (.tmp 7) (.tmp 13) 5⟩])
(.reg [⟨some 14,none,.mv (.tmp 5)⟩,
⟨some 15,none,.mv (.tmp 0)⟩,
⟨some 16,none,.load (.tmp 7) 5 true⟩,
⟨some 17,none,.call 80 [(.tmp 15),(.tmp 16)]⟩,
⟨some 18,none,.bsl 1 4 true [(.int .i64 0),(.int .i64 0),(.bool false),(.int .u64 0)] [(0,4,(.tmp 17))]⟩,
⟨some 19,none,.app (.tmp 14) (.tmp 18) 4 32 true false⟩,
⟨some 5,none,.mv (.tmp 19)⟩])))
(.reg [⟨some 20,none,.bin .add .plain (.tmp 10) (.cst (.int .i64 1))⟩,
⟨some 10,none,.mv (.tmp 20)⟩])))))))
(.seq (.reg [⟨some 21,none,.mv (.tmp 5)⟩,
⟨some 4,none,.mv (.tmp 21)⟩])
(.ret))))⟩
theorem tr68:trF Go.Proofs.Tryd.prog { obj:=[],bare:=[],loops:=[[0,5,8,9,10]],draws:=[],glob:=globs,fresh:=false } Go.Proofs.Tryd.f68=some ir68:=by kernel_rfl
def ir69:IFn:=⟨9,[.tmp 2 false],
.seq (.reg [⟨some 2,none,.mv (.cst (.bool false))⟩])
(.seq (.reg [⟨some 3,none,.mv (.tmp 0)⟩,
⟨some 4,none,.bin .geq .plain (.tmp 3) (.cst (.int .u8 48))⟩,
⟨some 5,none,.mv (.tmp 4)⟩,
⟨some 6,some (5,true),.mv (.tmp 0)⟩,
⟨some 7,some (5,true),.bin .leq .plain (.tmp 6) (.cst (.int .u8 57))⟩,
⟨some 8,none,.pick (.tmp 5) (.tmp 7) (.cst (.bool false))⟩,
⟨some 2,none,.mv (.tmp 8)⟩])
(.ret))⟩
theorem tr69:trF Go.Proofs.Tryd.prog { obj:=[],bare:=[],loops:=[],draws:=[],glob:=globs,fresh:=false } Go.Proofs.Tryd.f69=some ir69:=by kernel_rfl
def ir70:IFn:=⟨93,[.tmp 4 false],
.seq (.reg [⟨some 2,none,.box (.tmp 0) false⟩,
⟨some 4,none,.mv (.cst (.bool false))⟩])
(.seq (.seq (.draw [(⟨some 7,none,.mv (.tmp 1)⟩,0,[]),
(⟨some 8,none,.bin .gtr .plain (.tmp 7) (.cst (.int .i64 24))⟩,1,[]),
(⟨some 9,none,.mv (.tmp 8)⟩,2,[]),
(⟨some 10,some (9,false),.load (.tmp 2) 5 true⟩,3,[]),
(⟨some 12,some (9,false),.fad (.tmp 2) 4⟩,5,[]),
(⟨some 13,some (9,false),.load (.tmp 12) 1 false⟩,6,[]),
(⟨some 14,some (9,false),.len .i (.tmp 13)⟩,7,[]),
(⟨some 11,some (9,false),.call 81 [(.tmp 10)]⟩,4,[5,6]),
(⟨some 15,some (9,false),.bin .neq .plain (.tmp 11) (.tmp 14)⟩,8,[]),
(⟨some 16,none,.pick (.tmp 9) (.cst (.bool true)) (.tmp 15)⟩,9,[])])
(.cond (.tmp 16)
(.seq (.reg [⟨some 4,none,.mv (.cst (.bool false))⟩])
(.ret))
(.skip)))
(.seq (.reg [⟨some 17,none,.fad (.tmp 2) 0⟩,
⟨some 18,none,.load (.tmp 17) 1 false⟩,
⟨some 19,none,.bin .eql .plain (.tmp 18) (.cst (.int .i64 2))⟩,
⟨some 20,none,.mv (.tmp 19)⟩,
⟨some 21,some (20,false),.fad (.tmp 2) 0⟩,
⟨some 22,some (20,false),.load (.tmp 21) 1 false⟩,
⟨some 23,some (20,false),.bin .eql .plain (.tmp 22) (.cst (.int .i64 3))⟩,
⟨some 24,none,.pick (.tmp 20) (.cst (.bool true)) (.tmp 23)⟩,
⟨some 5,none,.mv (.tmp 24)⟩])
(.seq (.seq (.reg [⟨some 25,none,.mv (.tmp 5)⟩,
⟨some 26,none,.mv (.tmp 25)⟩,
⟨some 27,some (26,true),.fad (.tmp 2) 3⟩,
⟨some 28,some (26,true),.load (.tmp 27) 1 false⟩,
⟨some 29,some (26,true),.call 40 [(.tmp 28)]⟩,
⟨some 30,some (26,true),.un .not (.tmp 29)⟩,
⟨some 31,none,.pick (.tmp 26) (.tmp 30) (.cst (.bool false))⟩,
⟨some 32,none,.mv (.tmp 31)⟩,
⟨some 33,some (32,false),.mv (.tmp 5)⟩,
⟨some 34,some (32,false),.un .not (.tmp 33)⟩,
⟨some 35,some (32,false),.mv (.tmp 34)⟩,
⟨some 36,some (35,true),.fad (.tmp 2) 3⟩,
⟨some 37,some (35,true),.load (.tmp 36) 1 false⟩,
⟨some 38,some (35,true),.bin .neq .plain (.tmp 37) (.cst (.str ⟨#[]⟩))⟩,
⟨some 39,some (32,false),.pick (.tmp 35) (.tmp 38) (.cst (.bool false))⟩,
⟨some 40,none,.pick (.tmp 32) (.cst (.bool true)) (.tmp 39)⟩])
(.cond (.tmp 40)
(.seq (.reg [⟨some 4,none,.mv (.cst (.bool false))⟩])
(.ret))
(.skip)))
(.seq (.seq (.reg [⟨some 41,none,.fad (.tmp 2) 0⟩,
⟨some 42,none,.load (.tmp 41) 1 false⟩,
⟨some 43,none,.bin .eql .plain (.tmp 42) (.cst (.int .i64 4))⟩,
⟨some 44,none,.mv (.tmp 43)⟩,
⟨some 45,some (44,true),.fad (.tmp 2) 1⟩,
⟨some 46,some (44,true),.load (.tmp 45) 1 false⟩,
⟨some 47,some (44,true),.bin .lss .plain (.tmp 46) (.cst (.int .i64 1))⟩,
⟨some 48,some (44,true),.mv (.tmp 47)⟩,
⟨some 49,some (48,false),.fad (.tmp 2) 1⟩,
⟨some 50,some (48,false),.load (.tmp 49) 1 false⟩,
⟨some 51,some (48,false),.bin .gtr .plain (.tmp 50) (.cst (.int .i64 7))⟩,
⟨some 52,some (44,true),.pick (.tmp 48) (.cst (.bool true)) (.tmp 51)⟩,
⟨some 53,none,.pick (.tmp 44) (.tmp 52) (.cst (.bool false))⟩,
⟨some 54,none,.mv (.tmp 53)⟩,
⟨some 55,some (54,false),.fad (.tmp 2) 0⟩,
⟨some 56,some (54,false),.load (.tmp 55) 1 false⟩,
⟨some 57,some (54,false),.bin .neq .plain (.tmp 56) (.cst (.int .i64 4))⟩,
⟨some 58,some (54,false),.mv (.tmp 57)⟩,
⟨some 59,some (58,true),.fad (.tmp 2) 1⟩,
⟨some 60,some (58,true),.load (.tmp 59) 1 false⟩,
⟨some 61,some (58,true),.bin .neq .plain (.tmp 60) (.cst (.int .i64 0))⟩,
⟨some 62,some (54,false),.pick (.tmp 58) (.tmp 61) (.cst (.bool false))⟩,
⟨some 63,none,.pick (.tmp 54) (.cst (.bool true)) (.tmp 62)⟩])
(.cond (.tmp 63)
(.seq (.reg [⟨some 4,none,.mv (.cst (.bool false))⟩])
(.ret))
(.skip)))
(.seq (.seq (.reg [⟨some 64,none,.fad (.tmp 2) 2⟩,
⟨some 65,none,.load (.tmp 64) 1 false⟩,
⟨some 66,none,.bin .gtr .plain (.tmp 65) (.cst (.int .u64 1152921504606846975))⟩,
⟨some 67,none,.mv (.tmp 66)⟩,
⟨some 68,some (67,false),.fad (.tmp 2) 0⟩,
⟨some 69,some (67,false),.load (.tmp 68) 1 false⟩,
⟨some 70,some (67,false),.bin .neq .plain (.tmp 69) (.cst (.int .i64 1))⟩,
⟨some 71,some (67,false),.mv (.tmp 70)⟩,
⟨some 72,some (71,true),.fad (.tmp 2) 2⟩,
⟨some 73,some (71,true),.load (.tmp 72) 1 false⟩,
⟨some 74,some (71,true),.bin .neq .plain (.tmp 73) (.cst (.int .u64 0))⟩,
⟨some 75,some (67,false),.pick (.tmp 71) (.tmp 74) (.cst (.bool false))⟩,
⟨some 76,none,.pick (.tmp 67) (.cst (.bool true)) (.tmp 75)⟩])
(.cond (.tmp 76)
(.seq (.reg [⟨some 4,none,.mv (.cst (.bool false))⟩])
(.ret))
(.skip)))
(.seq (.seq (.reg [⟨some 6,none,.mv (.cst (.int .i64 0))⟩])
(.block 0
(.loop [1,2,6]
(.seq (.seq (.reg [⟨some 77,none,.mv (.tmp 6)⟩,
⟨some 78,none,.fad (.tmp 2) 4⟩,
⟨some 79,none,.load (.tmp 78) 1 false⟩,
⟨some 80,none,.len .i (.tmp 79)⟩,
⟨some 81,none,.bin .lss .plain (.tmp 77) (.tmp 80)⟩])
(.cond (.tmp 81)
(.skip)
(.brk 0)))
(.seq (.block 1
(.seq (.reg [⟨some 84,none,.fad (.tmp 2) 4⟩,
⟨some 85,none,.load (.tmp 84) 1 false⟩,
⟨some 86,none,.mv (.tmp 6)⟩,
⟨some 87,none,.idxS (.tmp 85) (.tmp 86) 5⟩,
⟨some 88,none,.load (.tmp 87) 5 true⟩,
⟨some 89,none,.mv (.tmp 1)⟩,
⟨some 90,none,.bin .add .plain (.tmp 89) (.cst (.int .i64 1))⟩,
⟨some 91,none,.call 70 [(.tmp 88),(.tmp 90)]⟩,
⟨some 92,none,.un .not (.tmp 91)⟩])
(.cond (.tmp 92)
(.seq (.reg [⟨some 4,none,.mv (.cst (.bool false))⟩])
(.ret))
(.skip))))
(.reg [⟨some 82,none,.mv (.tmp 6)⟩,
⟨some 83,none,.bin .add .plain (.tmp 82) (.cst (.int .i64 1))⟩,
⟨some 6,none,.mv (.tmp 83)⟩]))))))
(.seq (.reg [⟨some 4,none,.mv (.cst (.bool true))⟩])
(.ret))))))))⟩
theorem tr70:trF Go.Proofs.Tryd.prog { obj:=[],bare:=[],loops:=[[1,2,6]],draws:=[(1,([0,1,3,7,15,7,39,103,255,511],[(0,[]),(1,[]),(2,[]),(3,[]),(5,[]),(6,[]),(7,[]),(4,[5,6]),(8,[]),(9,[])]))],glob:=globs,fresh:=false } Go.Proofs.Tryd.f70=some ir70:=by kernel_rfl
def ir71:IFn:=⟨23,[.tmp 2 false],
.seq (.reg [⟨some 2,none,.mv (.cst (.str ⟨#[]⟩))⟩])
(.seq (.reg [⟨some 4,none,.mv (.tmp 0)⟩,
⟨some 5,none,.bin .rem .plain (.tmp 4) (.cst (.int .u64 10))⟩,
⟨some 6,none,.bin .add .plain (.cst (.int .u64 48)) (.tmp 5)⟩,
⟨some 7,none,.cvI .u8 (.tmp 6)⟩,
⟨some 8,none,.bsl 1 1 false [(.int .u8 0)] [(0,1,(.tmp 7))]⟩,
⟨some 9,none,.cvB (.tmp 8)⟩,
⟨some 3,none,.mv (.tmp 9)⟩])
(.seq (.block 0
(.loop [0,3]
(.seq (.seq (.reg [⟨some 10,none,.mv (.tmp 0)⟩,
⟨some 11,none,.bin .geq .plain (.tmp 10) (.cst (.int .u64 10))⟩])
(.cond (.tmp 11)
(.skip)
(.brk 0)))
(.block 1
(.seq (.reg [⟨some 12,none,.mv (.tmp 0)⟩,
⟨some 13,none,.bin .quo .plain (.tmp 12) (.cst (.int .u64 10))⟩,
⟨some 0,none,.mv (.tmp 13)⟩])
(.reg [⟨some 14,none,.mv (.tmp 0)⟩,
⟨some 15,none,.bin .rem .plain (.tmp 14) (.cst (.int .u64 10))⟩,
⟨some 16,none,.bin .add .plain (.cst (.int .u64 48)) (.tmp 15)⟩,
⟨some 17,none,.cvI .u8 (.tmp 16)⟩,
⟨some 18,none,.bsl 1 1 false [(.int .u8 0)] [(0,1,(.tmp 17))]⟩,
⟨some 19,none,.cvB (.tmp 18)⟩,
⟨some 20,none,.mv (.tmp 3)⟩,
⟨some 21,none,.bin .add .plain (.tmp 19) (.tmp 20)⟩,
⟨some 3,none,.mv (.tmp 21)⟩]))))))
(.seq (.reg [⟨some 22,none,.mv (.tmp 3)⟩,
⟨some 2,none,.mv (.tmp 22)⟩])
(.ret))))⟩
theorem tr71:trF Go.Proofs.Tryd.prog { obj:=[],bare:=[],loops:=[[0,3]],draws:=[],glob:=globs,fresh:=false } Go.Proofs.Tryd.f71=some ir71:=by kernel_rfl
def ir72:IFn:=⟨78,[.tmp 2 false],
.seq (.reg [⟨some 1,none,.box (.tmp 0) false⟩,
⟨some 2,none,.mv (.cst (.str ⟨#[]⟩))⟩])
(.seq (.seq (.reg [⟨some 4,none,.fad (.tmp 1) 0⟩,
⟨some 5,none,.load (.tmp 4) 1 false⟩])
(.block 0
(.seq (.reg [⟨some 7,none,.bin .eql .plain (.tmp 5) (.cst (.int .i64 1))⟩,
⟨some 6,none,.mv (.tmp 7)⟩])
(.cond (.tmp 6)
(.seq (.reg [⟨some 8,none,.fad (.tmp 1) 2⟩,
⟨some 9,none,.load (.tmp 8) 1 false⟩,
⟨some 10,none,.call 71 [(.tmp 9)]⟩,
⟨some 2,none,.mv (.tmp 10)⟩])
(.ret))
(.seq (.reg [⟨some 12,none,.bin .eql .plain (.tmp 5) (.cst (.int .i64 2))⟩,
⟨some 11,none,.mv (.tmp 12)⟩])
(.cond (.tmp 11)
(.seq (.reg [⟨some 13,none,.fad (.tmp 1) 3⟩,
⟨some 14,none,.load (.tmp 13) 1 false⟩,
⟨some 2,none,.mv (.tmp 14)⟩])
(.ret))
(.seq (.reg [⟨some 16,none,.bin .eql .plain (.tmp 5) (.cst (.int .i64 3))⟩,
⟨some 15,none,.mv (.tmp 16)⟩])
(.cond (.tmp 15)
(.seq (.draw [(⟨some 17,none,.fad (.tmp 1) 3⟩,0,[]),
(⟨some 18,none,.load (.tmp 17) 1 false⟩,1,[]),
(⟨some 19,none,.bin .add .plain (.tmp 18) (.cst (.str ⟨#[91]⟩))⟩,2,[]),
(⟨some 20,none,.fad (.tmp 1) 4⟩,3,[]),
(⟨some 21,none,.load (.tmp 20) 1 false⟩,4,[]),
(⟨some 22,none,.idxS (.tmp 21) (.cst (.int .i64 0)) 5⟩,5,[]),
(⟨some 23,none,.load (.tmp 22) 5 true⟩,6,[]),
(⟨some 24,none,.call 72 [(.tmp 23)]⟩,7,[1]),
(⟨some 25,none,.bin .add .plain (.tmp 19) (.tmp 24)⟩,8,[]),
(⟨some 26,none,.bin .add .plain (.tmp 25) (.cst (.str ⟨#[93]⟩))⟩,9,[]),
(⟨some 2,none,.mv (.tmp 26)⟩,10,[])])
(.ret))
(.seq (.reg [⟨some 28,none,.bin .eql .plain (.tmp 5) (.cst (.int .i64 5))⟩,
⟨some 27,none,.mv (.tmp 28)⟩])
(.cond (.tmp 27)
(.seq (.reg [⟨some 29,none,.fad (.tmp 1) 4⟩,
⟨some 30,none,.load (.tmp 29) 1 false⟩,
⟨some 31,none,.idxS (.tmp 30) (.cst (.int .i64 0)) 5⟩,
⟨some 32,none,.load (.tmp 31) 5 true⟩,
⟨some 33,none,.call 82 [(.tmp 32),(.cst (.int .i64 8))]⟩,
⟨some 34,none,.bin .add .plain (.cst (.str ⟨#[33]⟩)) (.tmp 33)⟩,
⟨some 2,none,.mv (.tmp 34)⟩])
(.ret))
(.seq (.reg [⟨some 36,none,.bin .eql .plain (.tmp 5) (.cst (.int .i64 6))⟩,
⟨some 35,none,.mv (.tmp 36)⟩])
(.cond (.tmp 35)
(.seq (.draw [(⟨some 37,none,.fad (.tmp 1) 4⟩,0,[]),
(⟨some 38,none,.load (.tmp 37) 1 false⟩,1,[]),
(⟨some 39,none,.idxS (.tmp 38) (.cst (.int .i64 0)) 5⟩,2,[]),
(⟨some 40,none,.load (.tmp 39) 5 true⟩,3,[]),
(⟨some 43,none,.fad (.tmp 1) 4⟩,6,[]),
(⟨some 44,none,.load (.tmp 43) 1 false⟩,7,[]),
(⟨some 45,none,.idxS (.tmp 44) (.cst (.int .i64 1)) 5⟩,8,[]),
(⟨some 46,none,.load (.tmp 45) 5 true⟩,9,[]),
(⟨some 50,none,.fad (.tmp 1) 4⟩,13,[]),
(⟨some 51,none,.load (.tmp 50) 1 false⟩,14,[]),
(⟨some 52,none,.idxS (.tmp 51) (.cst (.int .i64 2)) 5⟩,15,[]),
(⟨some 53,none,.load (.tmp 52) 5 true⟩,16,[]),
(⟨some 41,none,.call 82 [(.tmp 40),(.cst (.int .i64 2))]⟩,4,[5,7,9,11]),
(⟨some 42,none,.bin .add .plain (.tmp 41) (.cst (.str ⟨#[32,63,32]⟩))⟩,5,[]),
(⟨some 47,none,.call 72 [(.tmp 46)]⟩,10,[9,11]),
(⟨some 48,none,.bin .add .plain (.tmp 42) (.tmp 47)⟩,11,[]),
(⟨some 49,none,.bin .add .plain (.tmp 48) (.cst (.str ⟨#[32,58,32]⟩))⟩,12,[]),
(⟨some 54,none,.call 72 [(.tmp 53)]⟩,17,[]),
(⟨some 55,none,.bin .add .plain (.tmp 49) (.tmp 54)⟩,18,[]),
(⟨some 2,none,.mv (.tmp 55)⟩,19,[])])
(.ret))
(.skip)))))))))))))
(.seq (.reg [⟨some 56,none,.load (.tmp 1) 5 true⟩,
⟨some 57,none,.call 83 [(.tmp 56)]⟩,
⟨some 3,none,.mv (.tmp 57)⟩])
(.seq (.draw [(⟨some 58,none,.fad (.tmp 1) 4⟩,0,[]),
(⟨some 59,none,.load (.tmp 58) 1 false⟩,1,[]),
(⟨some 60,none,.idxS (.tmp 59) (.cst (.int .i64 0)) 5⟩,2,[]),
(⟨some 61,none,.load (.tmp 60) 5 true⟩,3,[]),
(⟨some 62,none,.mv (.tmp 3)⟩,4,[]),
(⟨some 65,none,.fad (.tmp 1) 1⟩,7,[]),
(⟨some 66,none,.load (.tmp 65) 1 false⟩,8,[]),
(⟨some 70,none,.fad (.tmp 1) 4⟩,12,[]),
(⟨some 71,none,.load (.tmp 70) 1 false⟩,13,[]),
(⟨some 72,none,.idxS (.tmp 71) (.cst (.int .i64 1)) 5⟩,14,[]),
(⟨some 73,none,.load (.tmp 72) 5 true⟩,15,[]),
(⟨some 74,none,.mv (.tmp 3)⟩,16,[]),
(⟨some 75,none,.bin .add .plain (.tmp 74) (.cst (.int .i64 1))⟩,17,[]),
(⟨some 63,none,.call 82 [(.tmp 61),(.tmp 62)]⟩,5,[6,8,10]),
(⟨some 64,none,.bin .add .plain (.tmp 63) (.cst (.str ⟨#[32]⟩))⟩,6,[]),
(⟨some 67,none,.call 84 [(.tmp 66)]⟩,9,[8,10]),
(⟨some 68,none,.bin .add .plain (.tmp 64) (.tmp 67)⟩,10,[]),
(⟨some 69,none,.bin .add .plain (.tmp 68) (.cst (.str ⟨#[32]⟩))⟩,11,[]),
(⟨some 76,none,.call 82 [(.tmp 73),(.tmp 75)]⟩,18,[]),
(⟨some 77,none,.bin .add .plain (.tmp 69) (.tmp 76)⟩,19,[]),
(⟨some 2,none,.mv (.tmp 77)⟩,20,[])])
(.ret))))⟩
theorem tr72:trF Go.Proofs.Tryd.prog { obj:=[],bare:=[],loops:=[],draws:=[(7,([0,1,3,0,8,24,56,120,255,511,1023],[(0,[]),(1,[]),(2,[]),(3,[]),(4,[]),(5,[]),(6,[]),(7,[1]),(8,[]),(9,[]),(10,[])])),(11,([0,1,3,7,15,31,0,64,192,448,991,2047,4095,0,8192,24576,57344,124895,262143,524287],[(0,[]),(1,[]),(2,[]),(3,[]),(6,[]),(7,[]),(8,[]),(9,[]),(13,[]),(14,[]),(15,[]),(16,[]),(4,[5,7,9,11]),(5,[]),(10,[9,11]),(11,[]),(12,[]),(17,[]),(18,[]),(19,[])])),(13,([0,1,3,7,0,31,63,0,128,447,1023,2047,0,4096,12288,28672,0,65536,259007,524287,1048575],[(0,[]),(1,[]),(2,[]),(3,[]),(4,[]),(7,[]),(8,[]),(12,[]),(13,[]),(14,[]),(15,[]),(16,[]),(17,[]),(5,[6,8,10]),(6,[]),(9,[8,10]),(10,[]),(11,[]),(18,[]),(19,[]),(20,[])]))],glob:=globs,fresh:=false } Go.Proofs.Tryd.f72=some ir72:=by kernel_rfl
def ir76:IFn:=⟨23,[.tmp 4 false],
.seq (.reg [⟨some 2,none,.box (.tmp 0) false⟩,
⟨some 4,none,.mv (.cst (.int .i64 0))⟩])
(.seq (.seq (.reg [⟨some 5,none,.fad (.tmp 2) 0⟩,
⟨some 6,none,.load (.tmp 5) 1 false⟩,
⟨some 7,none,.bin .neq .plain (.tmp 6) (.cst (.int .i64 1))⟩,
⟨some 8,none,.mv (.tmp 7)⟩,
⟨some 9,some (8,false),.fad (.tmp 2) 2⟩,
⟨some 10,some (8,false),.load (.tmp 9) 1 false⟩,
⟨some 11,some (8,false),.un .not (.tmp 10)⟩,
⟨some 12,none,.pick (.tmp 8) (.cst (.bool true)) (.tmp 11)⟩])
(.cond (.tmp 12)
(.reg [⟨some 13,none,.call 53 [(.cst (.int .i64 1))]⟩])
(.skip)))
(.seq (.seq (.reg [⟨some 14,none,.fad (.tmp 2) 3⟩,
⟨some 15,none,.load (.tmp 14) 1 false⟩,
⟨some 16,none,.mv (.tmp 1)⟩,
⟨some 17,none,.cvI .u64 (.tmp 16)⟩,
⟨some 18,none,.bin .geq .plain (.tmp 15) (.tmp 17)⟩])
(.cond (.tmp 18)
(.reg [⟨some 19,none,.call 53 [(.cst (.int .i64 13))]⟩])
(.skip)))
(.seq (.reg [⟨some 20,none,.fad (.tmp 2) 3⟩,
⟨some 21,none,.load (.tmp 20) 1 false⟩,
⟨some 22,none,.cvI .i64 (.tmp 21)⟩,
⟨some 4,none,.mv (.tmp 22)⟩])
(.ret))))⟩
theorem tr76:trF Go.Proofs.Tryd.prog { obj:=[],bare:=[],loops:=[],draws:=[],glob:=globs,fresh:=false } Go.Proofs.Tryd.f76=some ir76:=by kernel_rfl
def ir77:IFn:=⟨9,[],
.seq (.reg [⟨some 2,none,.box (.tmp 0) false⟩])
(.seq (.reg [⟨some 4,none,.fad (.tmp 2) 0⟩,
⟨some 5,none,.load (.tmp 4) 1 false⟩,
⟨some 6,none,.mv (.tmp 1)⟩,
⟨some 7,none,.bin .neq .plain (.tmp 5) (.tmp 6)⟩])
(.cond (.tmp 7)
(.reg [⟨some 8,none,.call 53 [(.cst (.int .i64 5))]⟩])
(.skip)))⟩
theorem tr77:trF Go.Proofs.Tryd.prog { obj:=[],bare:=[],loops:=[],draws:=[],glob:=globs,fresh:=false } Go.Proofs.Tryd.f77=some ir77:=by kernel_rfl
def ir78:IFn:=⟨145,[],
.seq (.reg [⟨some 20,none,.mv (.tmp 0)⟩,
⟨some 21,none,.nilc (.tmp 20)⟩,
⟨some 22,none,.fad (.tmp 21) 7⟩,
⟨some 23,none,.load (.tmp 22) 1 false⟩,
⟨some 24,none,.bin .add .plain (.tmp 23) (.cst (.int .i64 1))⟩,
⟨some 25,none,.nilc (.tmp 20)⟩,
⟨some 26,none,.fad (.tmp 25) 7⟩,
⟨none,none,.store (.tmp 26) (.tmp 24) 1⟩])
(.seq (.draw [(⟨some 27,none,.mv (.tmp 0)⟩,0,[]),
(⟨some 28,none,.nilc (.tmp 27)⟩,1,[]),
(⟨some 29,none,.fad (.tmp 28) 2⟩,2,[]),
(⟨some 30,none,.load (.tmp 29) 1 false⟩,3,[]),
(⟨some 32,none,.mv (.tmp 0)⟩,5,[]),
(⟨some 33,none,.nilc (.tmp 32)⟩,6,[]),
(⟨some 34,none,.fad (.tmp 33) 3⟩,7,[]),
(⟨some 35,none,.load (.tmp 34) 1 false⟩,8,[]),
(⟨some 31,none,.call 86 [(.tmp 30)]⟩,4,[7]),
(⟨some 36,none,.call 87 [(.tmp 35)]⟩,9,[]),
(⟨some 6,none,.mv (.tmp 31)⟩,10,[]),
(⟨some 7,none,.mv (.tmp 36)⟩,11,[])])
(.seq (.reg [⟨some 37,none,.mv (.tmp 0)⟩,
⟨some 38,none,.mv (.tmp 1)⟩,
⟨some 39,none,.call 54 [(.tmp 37),(.tmp 38)]⟩])
(.seq (.reg [⟨some 40,none,.mv (.tmp 6)⟩,
⟨some 8,none,.mv (.tmp 40)⟩])
(.seq (.draw [(⟨some 41,none,.mv (.tmp 0)⟩,0,[]),
(⟨some 42,none,.nilc (.tmp 41)⟩,1,[]),
(⟨some 43,none,.fad (.tmp 42) 2⟩,2,[]),
(⟨some 44,none,.load (.tmp 43) 1 false⟩,3,[]),
(⟨some 45,none,.mv (.tmp 0)⟩,4,[]),
(⟨some 46,none,.nilc (.tmp 45)⟩,5,[]),
(⟨some 47,none,.fad (.tmp 46) 3⟩,6,[]),
(⟨some 48,none,.load (.tmp 47) 1 false⟩,7,[]),
(⟨some 9,none,.mv (.tmp 44)⟩,8,[]),
(⟨some 10,none,.mv (.tmp 48)⟩,9,[])])
(.seq (.reg [⟨some 49,none,.mv (.tmp 0)⟩,
⟨some 50,none,.mv (.tmp 0)⟩,
⟨some 51,none,.mv (.tmp 6)⟩,
⟨some 52,none,.call 86 [(.tmp 51)]⟩,
⟨some 53,none,.mv (.tmp 7)⟩,
⟨some 54,none,.nilc (.tmp 49)⟩,
⟨some 55,none,.fad (.tmp 54) 2⟩,
⟨none,none,.store (.tmp 55) (.tmp 52) 1⟩,
⟨some 56,none,.nilc (.tmp 50)⟩,
⟨some 57,none,.fad (.tmp 56) 3⟩,
⟨none,none,.store (.tmp 57) (.tmp 53) 1⟩])
(.seq (.reg [⟨some 58,none,.mv (.tmp 0)⟩,
⟨some 59,none,.mv (.tmp 2)⟩,
⟨some 60,none,.call 54 [(.tmp 58),(.tmp 59)]⟩])
(.seq (.reg [⟨some 61,none,.mv (.tmp 0)⟩,
⟨some 62,none,.nilc (.tmp 61)⟩,
⟨some 63,none,.fad (.tmp 62) 7⟩,
⟨some 64,none,.load (.tmp 63) 1 false⟩,
⟨some 65,none,.bin .sub .plain (.tmp 64) (.cst (.int .i64 1))⟩,
⟨some 66,none,.nilc (.tmp 61)⟩,
⟨some 67,none,.fad (.tmp 66) 7⟩,
⟨none,none,.store (.tmp 67) (.tmp 65) 1⟩])
(.seq (.reg [⟨some 68,none,.mkM⟩,
⟨some 11,none,.mv (.tmp 68)⟩])
(.seq (.seq (.reg [⟨some 69,none,.mv (.tmp 8)⟩,
⟨some 70,none,.rng (.tmp 69)⟩])
(.block 0
(.loop [0,9,10,11,70]
(.seq (.reg [⟨some 71,none,.nxt (.tmp 70)⟩,
⟨some 72,none,.ext (.tmp 71) 0⟩])
(.seq (.cond (.tmp 72)
(.skip)
(.brk 0))
(.block 1
(.seq (.reg [⟨some 73,none,.ent (.tmp 70)⟩,
⟨some 74,none,.ext (.tmp 73) 0⟩,
⟨some 12,none,.mv (.tmp 74)⟩])
(.seq (.reg [⟨some 76,none,.mv (.tmp 9)⟩,
⟨some 77,none,.mv (.tmp 12)⟩,
⟨some 78,none,.lkp .s (.tmp 76) (.tmp 77) (.agg [(.int .i64 0),(.int .i64 0),(.bool false),(.int .u64 0)]) true⟩,
⟨some 75,none,.mv (.tmp 78)⟩,
⟨some 79,none,.ext (.tmp 75) 0⟩,
⟨some 80,none,.ext (.tmp 75) 1⟩,
⟨some 13,none,.allocz [(.int .i64 0),(.int .i64 0),(.bool false),(.int .u64 0)] false⟩,
⟨none,none,.store (.tmp 13) (.tmp 79) 4⟩,
⟨some 14,none,.mv (.tmp 80)⟩])
(.seq (.reg [⟨some 82,none,.mv (.tmp 0)⟩,
⟨some 83,none,.nilc (.tmp 82)⟩,
⟨some 84,none,.fad (.tmp 83) 2⟩,
⟨some 85,none,.load (.tmp 84) 1 false⟩,
⟨some 86,none,.mv (.tmp 12)⟩,
⟨some 87,none,.lkp .s (.tmp 85) (.tmp 86) (.agg [(.int .i64 0),(.int .i64 0),(.bool false),(.int .u64 0)]) true⟩,
⟨some 81,none,.mv (.tmp 87)⟩,
⟨some 88,none,.ext (.tmp 81) 0⟩,
⟨some 89,none,.ext (.tmp 81) 1⟩,
⟨some 15,none,.allocz [(.int .i64 0),(.int .i64 0),(.bool false),(.int .u64 0)] false⟩,
⟨none,none,.store (.tmp 15) (.tmp 88) 4⟩,
⟨some 16,none,.mv (.tmp 89)⟩])
(.seq (.reg [⟨some 90,none,.mv (.tmp 14)⟩,
⟨some 91,none,.mv (.tmp 90)⟩,
⟨some 92,some (91,true),.mv (.tmp 16)⟩,
⟨some 93,none,.pick (.tmp 91) (.tmp 92) (.cst (.bool false))⟩,
⟨some 94,none,.mv (.tmp 93)⟩,
⟨some 95,some (94,true),.fad (.tmp 13) 0⟩,
⟨some 96,some (94,true),.load (.tmp 95) 1 false⟩,
⟨some 97,some (94,true),.fad (.tmp 15) 0⟩,
⟨some 98,some (94,true),.load (.tmp 97) 1 false⟩,
⟨some 99,some (94,true),.bin .eql .plain (.tmp 96) (.tmp 98)⟩,
⟨some 100,none,.pick (.tmp 94) (.tmp 99) (.cst (.bool false))⟩])
(.cond (.tmp 100)
(.reg [⟨some 101,none,.mv (.tmp 11)⟩,
⟨some 102,none,.mv (.tmp 12)⟩,
⟨some 103,none,.fad (.tmp 13) 0⟩,
⟨some 104,none,.load (.tmp 103) 1 false⟩,
⟨some 105,none,.fad (.tmp 13) 1⟩,
⟨some 106,none,.load (.tmp 105) 1 false⟩,
⟨some 107,none,.fad (.tmp 15) 1⟩,
⟨some 108,none,.load (.tmp 107) 1 false⟩,
⟨some 109,none,.max [(.tmp 106),(.tmp 108)]⟩,
⟨some 110,none,.bld [(.int .i64 0),(.int .i64 0),(.bool false),(.int .u64 0)] [(0,1,(.tmp 104)),(1,1,(.tmp 109))]⟩,
⟨none,none,.mup .s (.tmp 101) (.tmp 102) (.tmp 110)⟩])
(.skip))))))))))))
(.seq (.reg [⟨some 111,none,.mv (.tmp 0)⟩,
⟨some 112,none,.mv (.tmp 11)⟩,
⟨some 113,none,.nilc (.tmp 111)⟩,
⟨some 114,none,.fad (.tmp 113) 2⟩,
⟨none,none,.store (.tmp 114) (.tmp 112) 1⟩])
(.seq (.reg [⟨some 115,none,.mv (.tmp 0)⟩,
⟨some 116,none,.nilc (.tmp 115)⟩,
⟨some 117,none,.fad (.tmp 116) 3⟩,
⟨some 118,none,.load (.tmp 117) 1 false⟩,
⟨some 119,none,.rng (.tmp 118)⟩])
(.block 2
(.loop [10,119]
(.seq (.reg [⟨some 120,none,.nxt (.tmp 119)⟩,
⟨some 121,none,.ext (.tmp 120) 0⟩])
(.seq (.cond (.tmp 121)
(.skip)
(.brk 2))
(.block 3
(.seq (.reg [⟨some 122,none,.ent (.tmp 119)⟩,
⟨some 123,none,.ext (.tmp 122) 0⟩,
⟨some 124,none,.ext (.tmp 122) 1⟩,
⟨some 17,none,.mv (.tmp 123)⟩,
⟨some 18,none,.mv (.tmp 124)⟩])
(.seq (.reg [⟨some 125,none,.mv (.tmp 18)⟩,
⟨some 126,none,.len .i (.tmp 125)⟩,
⟨some 127,none,.mv (.cst (.int .i64 0))⟩])
(.block 4
(.loop [10,17,18,119,126,127]
(.seq (.reg [⟨some 128,none,.bin .lss .plain (.tmp 127) (.tmp 126)⟩])
(.seq (.cond (.tmp 128)
(.skip)
(.brk 4))
(.seq (.block 5
(.seq (.reg [⟨some 129,none,.mv (.tmp 127)⟩,
⟨some 19,none,.mv (.tmp 129)⟩])
(.draw [(⟨some 130,none,.mv (.tmp 18)⟩,0,[]),
(⟨some 131,none,.mv (.tmp 19)⟩,1,[]),
(⟨some 132,none,.mv (.tmp 18)⟩,2,[]),
(⟨some 133,none,.mv (.tmp 19)⟩,3,[]),
(⟨some 134,none,.idxS (.tmp 132) (.tmp 133) 1⟩,4,[]),
(⟨some 135,none,.load (.tmp 134) 1 false⟩,5,[]),
(⟨some 136,none,.mv (.tmp 10)⟩,6,[]),
(⟨some 137,none,.mv (.tmp 17)⟩,7,[]),
(⟨some 138,none,.lkp .s (.tmp 136) (.tmp 137) (.vec [] .full) false⟩,8,[]),
(⟨some 139,none,.mv (.tmp 19)⟩,9,[]),
(⟨some 140,none,.idxS (.tmp 138) (.tmp 139) 1⟩,10,[]),
(⟨some 141,none,.load (.tmp 140) 1 false⟩,11,[]),
(⟨some 142,none,.max [(.tmp 135),(.tmp 141)]⟩,12,[]),
(⟨some 143,none,.idxS (.tmp 130) (.tmp 131) 1⟩,13,[]),
(⟨none,none,.store (.tmp 143) (.tmp 142) 1⟩,14,[])])))
(.reg [⟨some 144,none,.bin .add .plain (.tmp 127) (.cst (.int .i64 1))⟩,
⟨some 127,none,.mv (.tmp 144)⟩]))))))))))))))))))))))))⟩
theorem tr78:trF Go.Proofs.Tryd.prog { obj:=[],bare:=[],loops:=[[0,9,10,11,70],[10,119],[10,17,18,119,126,127]],draws:=[(1,([0,1,3,7,15,0,32,96,224,511,1023,2047],[(0,[]),(1,[]),(2,[]),(3,[]),(5,[]),(6,[]),(7,[]),(8,[]),(4,[7]),(9,[]),(10,[]),(11,[])])),(4,([0,1,3,7,0,16,48,112,15,511],[(0,[]),(1,[]),(2,[]),(3,[]),(4,[]),(5,[]),(6,[]),(7,[]),(8,[]),(9,[])])),(23,([0,0,0,0,12,28,0,0,192,0,960,1984,4092,8191,16383],[(0,[]),(1,[]),(2,[]),(3,[]),(4,[]),(5,[]),(6,[]),(7,[]),(8,[]),(9,[]),(10,[]),(11,[]),(12,[]),(13,[]),(14,[])]))],glob:=globs,fresh:=false } Go.Proofs.Tryd.f78=some ir78:=by kernel_rfl
def ir79:IFn:=⟨67,[],
.seq (.reg [⟨some 5,none,.box (.tmp 1) false⟩,
⟨some 6,none,.box (.tmp 2) false⟩,
⟨some 7,none,.box (.tmp 3) false⟩])
(.seq (.seq (.reg [⟨some 9,none,.fad (.tmp 6) 0⟩,
⟨some 10,none,.load (.tmp 9) 1 false⟩,
⟨some 11,none,.bin .neq .plain (.tmp 10) (.cst (.int .i64 1))⟩,
⟨some 12,none,.mv (.tmp 11)⟩,
⟨some 13,some (12,false),.fad (.tmp 7) 0⟩,
⟨some 14,some (12,false),.load (.tmp 13) 1 false⟩,
⟨some 15,some (12,false),.bin .neq .plain (.tmp 14) (.cst (.int .i64 1))⟩,
⟨some 16,none,.pick (.tmp 12) (.cst (.bool true)) (.tmp 15)⟩,
⟨some 17,none,.mv (.tmp 16)⟩,
⟨some 18,some (17,false),.fad (.tmp 6) 2⟩,
⟨some 19,some (17,false),.load (.tmp 18) 1 false⟩,
⟨some 20,some (17,false),.un .not (.tmp 19)⟩,
⟨some 21,none,.pick (.tmp 17) (.cst (.bool true)) (.tmp 20)⟩,
⟨some 22,none,.mv (.tmp 21)⟩,
⟨some 23,some (22,false),.fad (.tmp 7) 2⟩,
⟨some 24,some (22,false),.load (.tmp 23) 1 false⟩,
⟨some 25,some (22,false),.un .not (.tmp 24)⟩,
⟨some 26,none,.pick (.tmp 22) (.cst (.bool true)) (.tmp 25)⟩])
(.cond (.tmp 26)
(.reg [⟨some 27,none,.call 53 [(.cst (.int .i64 1))]⟩])
(.skip)))
(.seq (.seq (.reg [⟨some 28,none,.mv (.tmp 0)⟩,
⟨some 29,none,.fad (.tmp 5) 1⟩,
⟨some 30,none,.load (.tmp 29) 1 false⟩,
⟨some 31,none,.call 52 [(.tmp 28),(.tmp 30)]⟩])
(.cond (.tmp 31)
(.reg [⟨some 32,none,.call 53 [(.cst (.int .i64 4))]⟩])
(.skip)))
(.seq (.draw [(⟨some 33,none,.mv (.tmp 0)⟩,0,[]),
(⟨some 34,none,.nilc (.tmp 33)⟩,1,[]),
(⟨some 35,none,.fad (.tmp 34) 2⟩,2,[]),
(⟨some 36,none,.load (.tmp 35) 1 false⟩,3,[]),
(⟨some 37,none,.fad (.tmp 5) 1⟩,4,[]),
(⟨some 38,none,.load (.tmp 37) 1 false⟩,5,[]),
(⟨none,none,.mdel .s (.tmp 36) (.tmp 38)⟩,6,[])])
(.seq (.seq (.reg [⟨some 39,none,.fad (.tmp 6) 3⟩,
⟨some 40,none,.load (.tmp 39) 1 false⟩,
⟨some 8,none,.mv (.tmp 40)⟩])
(.block 0
(.loop [0,5,7,8]
(.seq (.seq (.reg [⟨some 41,none,.mv (.tmp 8)⟩,
⟨some 42,none,.fad (.tmp 7) 3⟩,
⟨some 43,none,.load (.tmp 42) 1 false⟩,
⟨some 44,none,.bin .leq .plain (.tmp 41) (.tmp 43)⟩])
(.cond (.tmp 44)
(.skip)
(.brk 0)))
(.seq (.block 1
(.seq (.reg [⟨some 47,none,.mv (.tmp 0)⟩,
⟨some 48,none,.call 66 [(.tmp 47)]⟩])
(.seq (.draw [(⟨some 49,none,.mv (.tmp 0)⟩,0,[]),
(⟨some 50,none,.nilc (.tmp 49)⟩,1,[]),
(⟨some 51,none,.fad (.tmp 50) 4⟩,2,[]),
(⟨some 52,none,.load (.tmp 51) 1 false⟩,3,[]),
(⟨some 53,none,.fad (.tmp 5) 1⟩,4,[]),
(⟨some 54,none,.load (.tmp 53) 1 false⟩,5,[]),
(⟨some 55,none,.mv (.tmp 8)⟩,6,[]),
(⟨some 56,none,.call 88 [(.tmp 55)]⟩,7,[3,5]),
(⟨none,none,.mup .s (.tmp 52) (.tmp 54) (.tmp 56)⟩,8,[])])
(.reg [⟨some 57,none,.mv (.tmp 0)⟩,
⟨some 58,none,.fad (.tmp 5) 3⟩,
⟨some 59,none,.load (.tmp 58) 1 false⟩,
⟨some 60,none,.call 54 [(.tmp 57),(.tmp 59)]⟩]))))
(.reg [⟨some 45,none,.mv (.tmp 8)⟩,
⟨some 46,none,.bin .add .plain (.tmp 45) (.cst (.int .u64 1))⟩,
⟨some 8,none,.mv (.tmp 46)⟩]))))))
(.draw [(⟨some 61,none,.mv (.tmp 0)⟩,0,[]),
(⟨some 62,none,.nilc (.tmp 61)⟩,1,[]),
(⟨some 63,none,.fad (.tmp 62) 4⟩,2,[]),
(⟨some 64,none,.load (.tmp 63) 1 false⟩,3,[]),
(⟨some 65,none,.fad (.tmp 5) 1⟩,4,[]),
(⟨some 66,none,.load (.tmp 65) 1 false⟩,5,[]),
(⟨none,none,.mdel .s (.tmp 64) (.tmp 66)⟩,6,[])])))))⟩
theorem tr79:trF Go.Proofs.Tryd.prog { obj:=[],bare:=[],loops:=[[0,5,7,8]],draws:=[(5,([0,1,3,7,0,16,63],[(0,[]),(1,[]),(2,[]),(3,[]),(4,[]),(5,[]),(6,[])])),(10,([0,1,3,7,0,16,0,64,255],[(0,[]),(1,[]),(2,[]),(3,[]),(4,[]),(5,[]),(6,[]),(7,[3,5]),(8,[])])),(12,([0,1,3,7,0,16,63],[(0,[]),(1,[]),(2,[]),(3,[]),(4,[]),(5,[]),(6,[])]))],glob:=globs,fresh:=false } Go.Proofs.Tryd.f79=some ir79:=by kernel_rfl
def ir80:IFn:=⟨86,[.cell 4 4 true false],
.seq (.reg [⟨some 3,none,.box (.tmp 1) false⟩,
⟨some 4,none,.allocz [(.int .i64 0),(.int .i64 0),(.bool false),(.int .u64 0)] false⟩])
(.seq (.reg [⟨some 6,none,.mv (.tmp 0)⟩,
⟨some 7,none,.fad (.tmp 3) 4⟩,
⟨some 8,none,.load (.tmp 7) 1 false⟩,
⟨some 9,none,.call 68 [(.tmp 6),(.tmp 8)]⟩,
⟨some 5,none,.mv (.tmp 9)⟩])
(.seq (.seq (.reg [⟨some 10,none,.fad (.tmp 3) 0⟩,
⟨some 11,none,.load (.tmp 10) 1 false⟩])
(.block 0
(.seq (.reg [⟨some 13,none,.bin .eql .plain (.tmp 11) (.cst (.int .i64 1))⟩,
⟨some 12,none,.mv (.tmp 13)⟩])
(.cond (.tmp 12)
(.seq (.reg [⟨some 14,none,.mv (.tmp 0)⟩,
⟨some 15,none,.fad (.tmp 3) 2⟩,
⟨some 16,none,.load (.tmp 15) 1 false⟩,
⟨some 17,none,.call 88 [(.tmp 16)]⟩,
⟨some 18,none,.call 89 [(.tmp 14),(.tmp 17)]⟩,
⟨none,none,.store (.tmp 4) (.tmp 18) 4⟩])
(.ret))
(.seq (.reg [⟨some 20,none,.bin .eql .plain (.tmp 11) (.cst (.int .i64 2))⟩,
⟨some 19,none,.mv (.tmp 20)⟩])
(.cond (.tmp 19)
(.seq (.reg [⟨some 21,none,.mv (.tmp 0)⟩,
⟨some 22,none,.mv (.tmp 0)⟩,
⟨some 23,none,.fad (.tmp 3) 3⟩,
⟨some 24,none,.load (.tmp 23) 1 false⟩,
⟨some 25,none,.call 90 [(.tmp 22),(.tmp 24)]⟩,
⟨some 26,none,.call 89 [(.tmp 21),(.tmp 25)]⟩,
⟨none,none,.store (.tmp 4) (.tmp 26) 4⟩])
(.ret))
(.seq (.reg [⟨some 28,none,.bin .eql .plain (.tmp 11) (.cst (.int .i64 3))⟩,
⟨some 27,none,.mv (.tmp 28)⟩])
(.cond (.tmp 27)
(.seq (.draw [(⟨some 29,none,.mv (.tmp 0)⟩,0,[]),
(⟨some 30,none,.mv (.tmp 0)⟩,1,[]),
(⟨some 31,none,.fad (.tmp 3) 3⟩,2,[]),
(⟨some 32,none,.load (.tmp 31) 1 false⟩,3,[]),
(⟨some 33,none,.mv (.tmp 5)⟩,4,[]),
(⟨some 34,none,.idxS (.tmp 33) (.cst (.int .i64 0)) 4⟩,5,[]),
(⟨some 35,none,.load (.tmp 34) 4 true⟩,6,[]),
(⟨some 36,none,.call 91 [(.tmp 30),(.tmp 32),(.tmp 35)]⟩,7,[]),
(⟨some 37,none,.call 89 [(.tmp 29),(.tmp 36)]⟩,8,[]),
(⟨none,none,.store (.tmp 4) (.tmp 37) 4⟩,9,[])])
(.ret))
(.seq (.reg [⟨some 39,none,.bin .eql .plain (.tmp 11) (.cst (.int .i64 4))⟩,
⟨some 38,none,.mv (.tmp 39)⟩])
(.cond (.tmp 38)
(.seq (.draw [(⟨some 40,none,.mv (.tmp 0)⟩,0,[]),
(⟨some 41,none,.fad (.tmp 3) 1⟩,1,[]),
(⟨some 42,none,.load (.tmp 41) 1 false⟩,2,[]),
(⟨some 43,none,.mv (.tmp 5)⟩,3,[]),
(⟨some 44,none,.idxS (.tmp 43) (.cst (.int .i64 0)) 4⟩,4,[]),
(⟨some 45,none,.load (.tmp 44) 4 true⟩,5,[]),
(⟨some 46,none,.mv (.tmp 5)⟩,6,[]),
(⟨some 47,none,.idxS (.tmp 46) (.cst (.int .i64 1)) 4⟩,7,[]),
(⟨some 48,none,.load (.tmp 47) 4 true⟩,8,[]),
(⟨some 49,none,.call 92 [(.tmp 42),(.tmp 45),(.tmp 48)]⟩,9,[]),
(⟨some 50,none,.call 89 [(.tmp 40),(.tmp 49)]⟩,10,[]),
(⟨none,none,.store (.tmp 4) (.tmp 50) 4⟩,11,[])])
(.ret))
(.seq (.reg [⟨some 52,none,.bin .eql .plain (.tmp 11) (.cst (.int .i64 5))⟩,
⟨some 51,none,.mv (.tmp 52)⟩])
(.cond (.tmp 51)
(.seq (.reg [⟨some 53,none,.mv (.tmp 5)⟩,
⟨some 54,none,.idxS (.tmp 53) (.cst (.int .i64 0)) 4⟩,
⟨some 55,none,.load (.tmp 54) 4 true⟩,
⟨some 56,none,.call 77 [(.tmp 55),(.cst (.int .i64 2))]⟩])
(.seq (.reg [⟨some 57,none,.load (.glob 0 [(.int .i64 2),(.int .i64 0),(.bool false),(.int .u64 0)]) 4 true⟩,
⟨none,none,.store (.tmp 4) (.tmp 57) 4⟩])
(.ret)))
(.skip)))))))))))))
(.seq (.reg [⟨some 58,none,.mv (.tmp 5)⟩,
⟨some 59,none,.idxS (.tmp 58) (.cst (.int .i64 0)) 4⟩,
⟨some 60,none,.load (.tmp 59) 4 true⟩,
⟨some 61,none,.call 77 [(.tmp 60),(.cst (.int .i64 2))]⟩])
(.seq (.draw [(⟨some 62,none,.mv (.tmp 5)⟩,0,[]),
(⟨some 63,none,.idxS (.tmp 62) (.cst (.int .i64 2)) 4⟩,1,[]),
(⟨some 64,none,.load (.tmp 63) 4 true⟩,2,[]),
(⟨some 65,none,.mv (.tmp 5)⟩,3,[]),
(⟨some 66,none,.idxS (.tmp 65) (.cst (.int .i64 1)) 4⟩,4,[]),
(⟨some 67,none,.fad (.tmp 66) 0⟩,5,[]),
(⟨some 68,none,.load (.tmp 67) 1 false⟩,6,[]),
(⟨some 69,none,.call 77 [(.tmp 64),(.tmp 68)]⟩,7,[])])
(.seq (.draw [(⟨some 70,none,.mv (.tmp 0)⟩,0,[]),
(⟨some 71,none,.mv (.tmp 5)⟩,1,[]),
(⟨some 72,none,.idxS (.tmp 71) (.cst (.int .i64 1)) 4⟩,2,[]),
(⟨some 73,none,.fad (.tmp 72) 0⟩,3,[]),
(⟨some 74,none,.load (.tmp 73) 1 false⟩,4,[]),
(⟨some 75,none,.mv (.tmp 5)⟩,5,[]),
(⟨some 76,none,.idxS (.tmp 75) (.cst (.int .i64 1)) 4⟩,6,[]),
(⟨some 77,none,.fad (.tmp 76) 1⟩,7,[]),
(⟨some 78,none,.load (.tmp 77) 1 false⟩,8,[]),
(⟨some 79,none,.mv (.tmp 5)⟩,9,[]),
(⟨some 80,none,.idxS (.tmp 79) (.cst (.int .i64 2)) 4⟩,10,[]),
(⟨some 81,none,.fad (.tmp 80) 1⟩,11,[]),
(⟨some 82,none,.load (.tmp 81) 1 false⟩,12,[]),
(⟨some 83,none,.max [(.tmp 78),(.tmp 82)]⟩,13,[]),
(⟨some 84,none,.bld [(.int .i64 0),(.int .i64 0),(.bool false),(.int .u64 0)] [(0,1,(.tmp 74)),(1,1,(.tmp 83))]⟩,14,[]),
(⟨some 85,none,.call 89 [(.tmp 70),(.tmp 84)]⟩,15,[]),
(⟨none,none,.store (.tmp 4) (.tmp 85) 4⟩,16,[])])
(.ret))))))⟩
theorem tr80:trF Go.Proofs.Tryd.prog { obj:=[],bare:=[],loops:=[],draws:=[(8,([0,0,0,4,0,16,48,126,255,511],[(0,[]),(1,[]),(2,[]),(3,[]),(4,[]),(5,[]),(6,[]),(7,[]),(8,[]),(9,[])])),(10,([0,0,2,0,8,24,0,64,192,510,1023,2047],[(0,[]),(1,[]),(2,[]),(3,[]),(4,[]),(5,[]),(6,[]),(7,[]),(8,[]),(9,[]),(10,[]),(11,[])])),(15,([0,1,3,0,8,24,56,127],[(0,[]),(1,[]),(2,[]),(3,[]),(4,[]),(5,[]),(6,[]),(7,[])])),(16,([0,0,2,6,14,0,32,96,224,0,512,1536,3584,8160,16382,32767,65535],[(0,[]),(1,[]),(2,[]),(3,[]),(4,[]),(5,[]),(6,[]),(7,[]),(8,[]),(9,[]),(10,[]),(11,[]),(12,[]),(13,[]),(14,[]),(15,[]),(16,[])]))],glob:=globs,fresh:=false } Go.Proofs.Tryd.f80=some ir80:=by kernel_rfl
def ir81:IFn:=⟨15,[.tmp 2 false],
.seq (.reg [⟨some 1,none,.box (.tmp 0) false⟩,
⟨some 2,none,.mv (.cst (.int .i64 0))⟩])
(.seq (.seq (.reg [⟨some 3,none,.fad (.tmp 1) 0⟩,
⟨some 4,none,.load (.tmp 3) 1 false⟩])
(.block 0
(.seq (.seq (.reg [⟨some 6,none,.bin .eql .plain (.tmp 4) (.cst (.int .i64 1))⟩,
⟨some 5,none,.mv (.tmp 6)⟩])
(.cond (.tmp 5)
(.skip)
(.reg [⟨some 7,none,.bin .eql .plain (.tmp 4) (.cst (.int .i64 2))⟩,
⟨some 5,none,.mv (.tmp 7)⟩])))
(.cond (.tmp 5)
(.seq (.reg [⟨some 2,none,.mv (.cst (.int .i64 0))⟩])
(.ret))
(.seq (.seq (.reg [⟨some 9,none,.bin .eql .plain (.tmp 4) (.cst (.int .i64 3))⟩,
⟨some 8,none,.mv (.tmp 9)⟩])
(.cond (.tmp 8)
(.skip)
(.reg [⟨some 10,none,.bin .eql .plain (.tmp 4) (.cst (.int .i64 5))⟩,
⟨some 8,none,.mv (.tmp 10)⟩])))
(.cond (.tmp 8)
(.seq (.reg [⟨some 2,none,.mv (.cst (.int .i64 1))⟩])
(.ret))
(.seq (.reg [⟨some 12,none,.bin .eql .plain (.tmp 4) (.cst (.int .i64 4))⟩,
⟨some 11,none,.mv (.tmp 12)⟩])
(.cond (.tmp 11)
(.seq (.reg [⟨some 2,none,.mv (.cst (.int .i64 2))⟩])
(.ret))
(.seq (.reg [⟨some 14,none,.bin .eql .plain (.tmp 4) (.cst (.int .i64 6))⟩,
⟨some 13,none,.mv (.tmp 14)⟩])
(.cond (.tmp 13)
(.seq (.reg [⟨some 2,none,.mv (.cst (.int .i64 3))⟩])
(.ret))
(.skip)))))))))))
(.seq (.reg [⟨some 2,none,.mv (.cst (.int .i64 (-1)))⟩])
(.ret)))⟩
theorem tr81:trF Go.Proofs.Tryd.prog { obj:=[],bare:=[],loops:=[],draws:=[],glob:=globs,fresh:=false } Go.Proofs.Tryd.f81=some ir81:=by kernel_rfl
def ir82:IFn:=⟨15,[.tmp 4 false],
.seq (.reg [⟨some 2,none,.box (.tmp 0) false⟩,
⟨some 4,none,.mv (.cst (.str ⟨#[]⟩))⟩])
(.seq (.seq (.reg [⟨some 5,none,.load (.tmp 2) 5 true⟩,
⟨some 6,none,.call 83 [(.tmp 5)]⟩,
⟨some 7,none,.mv (.tmp 1)⟩,
⟨some 8,none,.bin .lss .plain (.tmp 6) (.tmp 7)⟩])
(.cond (.tmp 8)
(.seq (.reg [⟨some 9,none,.load (.tmp 2) 5 true⟩,
⟨some 10,none,.call 72 [(.tmp 9)]⟩,
⟨some 11,none,.bin .add .plain (.cst (.str ⟨#[40]⟩)) (.tmp 10)⟩,
⟨some 12,none,.bin .add .plain (.tmp 11) (.cst (.str ⟨#[41]⟩))⟩,
⟨some 4,none,.mv (.tmp 12)⟩])
(.ret))
(.skip)))
(.seq (.reg [⟨some 13,none,.load (.tmp 2) 5 true⟩,
⟨some 14,none,.call 72 [(.tmp 13)]⟩,
⟨some 4,none,.mv (.tmp 14)⟩])
(.ret)))⟩
theorem tr82:trF Go.Proofs.Tryd.prog { obj:=[],bare:=[],loops:=[],draws:=[],glob:=globs,fresh:=false } Go.Proofs.Tryd.f82=some ir82:=by kernel_rfl
def ir83:IFn:=⟨23,[.tmp 2 false],
.seq (.reg [⟨some 1,none,.box (.tmp 0) false⟩,
⟨some 2,none,.mv (.cst (.int .i64 0))⟩])
(.seq (.seq (.reg [⟨some 3,none,.fad (.tmp 1) 0⟩,
⟨some 4,none,.load (.tmp 3) 1 false⟩])
(.block 0
(.seq (.reg [⟨some 6,none,.bin .eql .plain (.tmp 4) (.cst (.int .i64 6))⟩,
⟨some 5,none,.mv (.tmp 6)⟩])
(.cond (.tmp 5)
(.seq (.reg [⟨some 2,none,.mv (.cst (.int .i64 1))⟩])
(.ret))
(.seq (.reg [⟨some 8,none,.bin .eql .plain (.tmp 4) (.cst (.int .i64 5))⟩,
⟨some 7,none,.mv (.tmp 8)⟩])
(.cond (.tmp 7)
(.seq (.reg [⟨some 2,none,.mv (.cst (.int .i64 8))⟩])
(.ret))
(.seq (.reg [⟨some 10,none,.bin .eql .plain (.tmp 4) (.cst (.int .i64 4))⟩,
⟨some 9,none,.mv (.tmp 10)⟩])
(.cond (.tmp 9)
(.seq (.seq (.reg [⟨some 11,none,.fad (.tmp 1) 1⟩,
⟨some 12,none,.load (.tmp 11) 1 false⟩])
(.block 1
(.seq (.reg [⟨some 14,none,.bin .eql .plain (.tmp 12) (.cst (.int .i64 7))⟩,
⟨some 13,none,.mv (.tmp 14)⟩])
(.cond (.tmp 13)
(.seq (.reg [⟨some 2,none,.mv (.cst (.int .i64 2))⟩])
(.ret))
(.seq (.reg [⟨some 16,none,.bin .eql .plain (.tmp 12) (.cst (.int .i64 6))⟩,
⟨some 15,none,.mv (.tmp 16)⟩])
(.cond (.tmp 15)
(.seq (.reg [⟨some 2,none,.mv (.cst (.int .i64 3))⟩])
(.ret))
(.seq (.reg [⟨some 18,none,.bin .eql .plain (.tmp 12) (.cst (.int .i64 5))⟩,
⟨some 17,none,.mv (.tmp 18)⟩])
(.cond (.tmp 17)
(.seq (.reg [⟨some 2,none,.mv (.cst (.int .i64 4))⟩])
(.ret))
(.seq (.reg [⟨some 20,none,.bin .eql .plain (.tmp 12) (.cst (.int .i64 4))⟩,
⟨some 19,none,.mv (.tmp 20)⟩])
(.cond (.tmp 19)
(.seq (.reg [⟨some 2,none,.mv (.cst (.int .i64 5))⟩])
(.ret))
(.seq (.reg [⟨some 22,none,.bin .eql .plain (.tmp 12) (.cst (.int .i64 3))⟩,
⟨some 21,none,.mv (.tmp 22)⟩])
(.cond (.tmp 21)
(.seq (.reg [⟨some 2,none,.mv (.cst (.int .i64 7))⟩])
(.ret))
(.skip)))))))))))))
(.seq (.reg [⟨some 2,none,.mv (.cst (.int .i64 6))⟩])
(.ret)))
(.skip)))))))))
(.seq (.reg [⟨some 2,none,.mv (.cst (.int .i64 9))⟩])
(.ret)))⟩
theorem tr83:trF Go.Proofs.Tryd.prog { obj:=[],bare:=[],loops:=[],draws:=[],glob:=globs,fresh:=false } Go.Proofs.Tryd.f83=some ir83:=by kernel_rfl
def ir84:IFn:=⟨10,[.tmp 2 false],
.seq (.reg [⟨some 2,none,.mv (.cst (.str ⟨#[]⟩))⟩])
(.seq (.reg [⟨some 4,none,.bsl 7 1 false [(.str ⟨#[]⟩)] [(0,1,(.cst (.str ⟨#[43]⟩))),(1,1,(.cst (.str ⟨#[45]⟩))),(2,1,(.cst (.str ⟨#[42]⟩))),(3,1,(.cst (.str ⟨#[60]⟩))),(4,1,(.cst (.str ⟨#[61,61]⟩))),(5,1,(.cst (.str ⟨#[38]⟩))),(6,1,(.cst (.str ⟨#[124]⟩)))]⟩,
⟨some 3,none,.mv (.tmp 4)⟩])
(.seq (.reg [⟨some 5,none,.mv (.tmp 3)⟩,
⟨some 6,none,.mv (.tmp 0)⟩,
⟨some 7,none,.bin .sub .plain (.tmp 6) (.cst (.int .i64 1))⟩,
⟨some 8,none,.idxS (.tmp 5) (.tmp 7) 1⟩,
⟨some 9,none,.load (.tmp 8) 1 false⟩,
⟨some 2,none,.mv (.tmp 9)⟩])
(.ret)))⟩
theorem tr84:trF Go.Proofs.Tryd.prog { obj:=[],bare:=[],loops:=[],draws:=[],glob:=globs,fresh:=false } Go.Proofs.Tryd.f84=some ir84:=by kernel_rfl
def ir87:IFn:=⟨20,[.tmp 2 false],
.seq (.reg [⟨some 2,none,.mv (.cst .nilmap)⟩])
(.seq (.reg [⟨some 6,none,.mkM⟩,
⟨some 3,none,.mv (.tmp 6)⟩])
(.seq (.seq (.reg [⟨some 7,none,.mv (.tmp 0)⟩,
⟨some 8,none,.rng (.tmp 7)⟩])
(.block 0
(.loop [3,8]
(.seq (.reg [⟨some 9,none,.nxt (.tmp 8)⟩,
⟨some 10,none,.ext (.tmp 9) 0⟩])
(.seq (.cond (.tmp 10)
(.skip)
(.brk 0))
(.block 1
(.seq (.reg [⟨some 11,none,.ent (.tmp 8)⟩,
⟨some 12,none,.ext (.tmp 11) 0⟩,
⟨some 13,none,.ext (.tmp 11) 1⟩,
⟨some 4,none,.mv (.tmp 12)⟩,
⟨some 5,none,.mv (.tmp 13)⟩])
(.reg [⟨some 14,none,.mv (.tmp 3)⟩,
⟨some 15,none,.mv (.tmp 4)⟩,
⟨some 16,none,.bsl 0 1 false [(.int .i64 0)] []⟩,
⟨some 17,none,.mv (.tmp 5)⟩,
⟨some 18,none,.app (.tmp 16) (.tmp 17) 1 8 false true⟩,
⟨none,none,.mup .s (.tmp 14) (.tmp 15) (.tmp 18)⟩]))))))))
(.seq (.reg [⟨some 19,none,.mv (.tmp 3)⟩,
⟨some 2,none,.mv (.tmp 19)⟩])
(.ret))))⟩
theorem tr87:trF Go.Proofs.Tryd.prog { obj:=[18],bare:=[],loops:=[[3,8]],draws:=[],glob:=globs,fresh:=false } Go.Proofs.Tryd.f87=some ir87:=by kernel_rfl
def ir88:IFn:=⟨7,[.cell 2 4 true false],
.seq (.reg [⟨some 2,none,.allocz [(.int .i64 0),(.int .i64 0),(.bool false),(.int .u64 0)] false⟩])
(.seq (.reg [⟨some 3,none,.mv (.tmp 0)⟩,
⟨some 4,none,.call 50 [(.tmp 3)]⟩,
⟨some 5,none,.mv (.tmp 0)⟩,
⟨some 6,none,.bld [(.int .i64 0),(.int .i64 0),(.bool false),(.int .u64 0)] [(0,1,(.cst (.int .i64 1))),(1,1,(.tmp 4)),(2,1,(.cst (.bool true))),(3,1,(.tmp 5))]⟩,
⟨none,none,.store (.tmp 2) (.tmp 6) 4⟩])
(.ret))⟩
theorem tr88:trF Go.Proofs.Tryd.prog { obj:=[],bare:=[],loops:=[],draws:=[],glob:=globs,fresh:=false } Go.Proofs.Tryd.f88=some ir88:=by kernel_rfl
def ir89:IFn:=⟨23,[.cell 4 4 true false],
.seq (.reg [⟨some 3,none,.box (.tmp 1) false⟩,
⟨some 4,none,.allocz [(.int .i64 0),(.int .i64 0),(.bool false),(.int .u64 0)] false⟩])
(.seq (.seq (.reg [⟨some 5,none,.fad (.tmp 3) 0⟩,
⟨some 6,none,.load (.tmp 5) 1 false⟩,
⟨some 7,none,.bin .eql .plain (.tmp 6) (.cst (.int .i64 1))⟩])
(.cond (.tmp 7)
(.seq (.seq (.reg [⟨some 8,none,.fad (.tmp 3) 1⟩,
⟨some 9,none,.load (.tmp 8) 1 false⟩,
⟨some 10,none,.bin .gtr .plain (.tmp 9) (.cst (.int .i64 60))⟩])
(.cond (.tmp 10)
(.reg [⟨some 11,none,.call 53 [(.cst (.int .i64 11))]⟩])
(.skip)))
(.draw [(⟨some 12,none,.mv (.tmp 0)⟩,0,[]),
(⟨some 13,none,.mv (.tmp 0)⟩,1,[]),
(⟨some 14,none,.nilc (.tmp 13)⟩,2,[]),
(⟨some 15,none,.fad (.tmp 14) 6⟩,3,[]),
(⟨some 16,none,.load (.tmp 15) 1 false⟩,4,[]),
(⟨some 17,none,.fad (.tmp 3) 1⟩,5,[]),
(⟨some 18,none,.load (.tmp 17) 1 false⟩,6,[]),
(⟨some 19,none,.max [(.tmp 16),(.tmp 18)]⟩,7,[]),
(⟨some 20,none,.nilc (.tmp 12)⟩,8,[]),
(⟨some 21,none,.fad (.tmp 20) 6⟩,9,[]),
(⟨none,none,.store (.tmp 21) (.tmp 19) 1⟩,10,[])]))
(.skip)))
(.seq (.reg [⟨some 22,none,.load (.tmp 3) 4 true⟩,
⟨none,none,.store (.tmp 4) (.tmp 22) 4⟩])
(.ret)))⟩
theorem tr89:trF Go.Proofs.Tryd.prog { obj:=[],bare:=[],loops:=[],draws:=[(4,([0,0,2,6,14,0,32,126,255,511,1023],[(0,[]),(1,[]),(2,[]),(3,[]),(4,[]),(5,[]),(6,[]),(7,[]),(8,[]),(9,[]),(10,[])]))],glob:=globs,fresh:=false } Go.Proofs.Tryd.f89=some ir89:=by kernel_rfl
def ir90:IFn:=⟨53,[.cell 4 4 true false],
.seq (.reg [⟨some 4,none,.allocz [(.int .i64 0),(.int .i64 0),(.bool false),(.int .u64 0)] false⟩])
(.seq (.seq (.reg [⟨some 12,none,.mv (.tmp 0)⟩,
⟨some 13,none,.nilc (.tmp 12)⟩,
⟨some 14,none,.fad (.tmp 13) 4⟩,
⟨some 15,none,.load (.tmp 14) 1 false⟩,
⟨some 16,none,.mv (.tmp 1)⟩,
⟨some 17,none,.lkp .s (.tmp 15) (.tmp 16) (.agg [(.int .i64 0),(.int .i64 0),(.bool false),(.int .u64 0)]) true⟩,
⟨some 11,none,.mv (.tmp 17)⟩,
⟨some 18,none,.ext (.tmp 11) 0⟩,
⟨some 19,none,.ext (.tmp 11) 1⟩,
⟨some 5,none,.allocz [(.int .i64 0),(.int .i64 0),(.bool false),(.int .u64 0)] false⟩,
⟨none,none,.store (.tmp 5) (.tmp 18) 4⟩,
⟨some 6,none,.mv (.tmp 19)⟩])
(.seq (.reg [⟨some 20,none,.mv (.tmp 6)⟩])
(.cond (.tmp 20)
(.seq (.reg [⟨some 21,none,.load (.tmp 5) 4 true⟩,
⟨none,none,.store (.tmp 4) (.tmp 21) 4⟩])
(.ret))
(.skip))))
(.seq (.seq (.reg [⟨some 23,none,.mv (.tmp 0)⟩,
⟨some 24,none,.nilc (.tmp 23)⟩,
⟨some 25,none,.fad (.tmp 24) 2⟩,
⟨some 26,none,.load (.tmp 25) 1 false⟩,
⟨some 27,none,.mv (.tmp 1)⟩,
⟨some 28,none,.lkp .s (.tmp 26) (.tmp 27) (.agg [(.int .i64 0),(.int .i64 0),(.bool false),(.int .u64 0)]) true⟩,
⟨some 22,none,.mv (.tmp 28)⟩,
⟨some 29,none,.ext (.tmp 22) 0⟩,
⟨some 30,none,.ext (.tmp 22) 1⟩,
⟨some 7,none,.allocz [(.int .i64 0),(.int .i64 0),(.bool false),(.int .u64 0)] false⟩,
⟨none,none,.store (.tmp 7) (.tmp 29) 4⟩,
⟨some 8,none,.mv (.tmp 30)⟩])
(.seq (.reg [⟨some 31,none,.mv (.tmp 8)⟩])
(.cond (.tmp 31)
(.seq (.reg [⟨some 32,none,.load (.tmp 7) 4 true⟩,
⟨none,none,.store (.tmp 4) (.tmp 32) 4⟩])
(.ret))
(.skip))))
(.seq (.seq (.reg [⟨some 34,none,.mv (.tmp 0)⟩,
⟨some 35,none,.nilc (.tmp 34)⟩,
⟨some 36,none,.fad (.tmp 35) 0⟩,
⟨some 37,none,.load (.tmp 36) 1 false⟩,
⟨some 38,none,.mv (.tmp 1)⟩,
⟨some 39,none,.lkp .s (.tmp 37) (.tmp 38) (.agg [(.str ⟨#[]⟩),(.int .i64 0),(.int .i64 0),(.int .i64 0)]) true⟩,
⟨some 33,none,.mv (.tmp 39)⟩,
⟨some 40,none,.ext (.tmp 33) 0⟩,
⟨some 41,none,.ext (.tmp 33) 1⟩,
⟨some 9,none,.allocz [(.str ⟨#[]⟩),(.int .i64 0),(.int .i64 0),(.int .i64 0)] false⟩,
⟨none,none,.store (.tmp 9) (.tmp 40) 4⟩,
⟨some 10,none,.mv (.tmp 41)⟩])
(.seq (.reg [⟨some 42,none,.mv (.tmp 10)⟩,
⟨some 43,none,.mv (.tmp 42)⟩,
⟨some 44,some (43,true),.fad (.tmp 9) 3⟩,
⟨some 45,some (43,true),.load (.tmp 44) 1 false⟩,
⟨some 46,some (43,true),.bin .eql .plain (.tmp 45) (.cst (.int .i64 0))⟩,
⟨some 47,none,.pick (.tmp 43) (.tmp 46) (.cst (.bool false))⟩])
(.cond (.tmp 47)
(.seq (.reg [⟨some 48,none,.fad (.tmp 9) 2⟩,
⟨some 49,none,.load (.tmp 48) 1 false⟩,
⟨some 50,none,.call 102 [(.tmp 49)]⟩,
⟨none,none,.store (.tmp 4) (.tmp 50) 4⟩])
(.ret))
(.skip))))
(.seq (.reg [⟨some 51,none,.call 53 [(.cst (.int .i64 4))]⟩])
(.seq (.reg [⟨some 52,none,.bld [(.int .i64 0),(.int .i64 0),(.bool false),(.int .u64 0)] []⟩,
⟨none,none,.store (.tmp 4) (.tmp 52) 4⟩])
(.ret))))))⟩
theorem tr90:trF Go.Proofs.Tryd.prog { obj:=[],bare:=[],loops:=[],draws:=[],glob:=globs,fresh:=false } Go.Proofs.Tryd.f90=some ir90:=by kernel_rfl
def ir91:IFn:=⟨57,[.cell 6 4 true false],
.seq (.reg [⟨some 5,none,.box (.tmp 2) false⟩,
⟨some 6,none,.allocz [(.int .i64 0),(.int .i64 0),(.bool false),(.int .u64 0)] false⟩])
(.seq (.seq (.reg [⟨some 12,none,.mv (.tmp 0)⟩,
⟨some 13,none,.nilc (.tmp 12)⟩,
⟨some 14,none,.fad (.tmp 13) 0⟩,
⟨some 15,none,.load (.tmp 14) 1 false⟩,
⟨some 16,none,.mv (.tmp 1)⟩,
⟨some 17,none,.lkp .s (.tmp 15) (.tmp 16) (.agg [(.str ⟨#[]⟩),(.int .i64 0),(.int .i64 0),(.int .i64 0)]) true⟩,
⟨some 11,none,.mv (.tmp 17)⟩,
⟨some 18,none,.ext (.tmp 11) 0⟩,
⟨some 19,none,.ext (.tmp 11) 1⟩,
⟨some 7,none,.allocz [(.str ⟨#[]⟩),(.int .i64 0),(.int .i64 0),(.int .i64 0)] false⟩,
⟨none,none,.store (.tmp 7) (.tmp 18) 4⟩,
⟨some 8,none,.mv (.tmp 19)⟩])
(.seq (.reg [⟨some 20,none,.mv (.tmp 8)⟩,
⟨some 21,none,.mv (.tmp 20)⟩,
⟨some 22,some (21,true),.fad (.tmp 7) 3⟩,
⟨some 23,some (21,true),.load (.tmp 22) 1 false⟩,
⟨some 24,some (21,true),.bin .gtr .plain (.tmp 23) (.cst (.int .i64 0))⟩,
⟨some 25,none,.pick (.tmp 21) (.tmp 24) (.cst (.bool false))⟩])
(.cond (.tmp 25)
(.seq (.reg [⟨some 26,none,.load (.tmp 5) 4 true⟩,
⟨some 27,none,.fad (.tmp 7) 3⟩,
⟨some 28,none,.load (.tmp 27) 1 false⟩,
⟨some 29,none,.call 76 [(.tmp 26),(.tmp 28)]⟩])
(.seq (.reg [⟨some 30,none,.fad (.tmp 7) 2⟩,
⟨some 31,none,.load (.tmp 30) 1 false⟩,
⟨some 32,none,.call 102 [(.tmp 31)]⟩,
⟨none,none,.store (.tmp 6) (.tmp 32) 4⟩])
(.ret)))
(.skip))))
(.seq (.seq (.reg [⟨some 34,none,.mv (.tmp 0)⟩,
⟨some 35,none,.nilc (.tmp 34)⟩,
⟨some 36,none,.fad (.tmp 35) 1⟩,
⟨some 37,none,.load (.tmp 36) 1 false⟩,
⟨some 38,none,.mv (.tmp 1)⟩,
⟨some 39,none,.lkp .s (.tmp 37) (.tmp 38) (.int .i64 0) true⟩,
⟨some 33,none,.mv (.tmp 39)⟩,
⟨some 40,none,.ext (.tmp 33) 0⟩,
⟨some 41,none,.ext (.tmp 33) 1⟩,
⟨some 9,none,.mv (.tmp 40)⟩,
⟨some 10,none,.mv (.tmp 41)⟩])
(.seq (.reg [⟨some 42,none,.mv (.tmp 10)⟩])
(.cond (.tmp 42)
(.seq (.draw [(⟨some 43,none,.mv (.tmp 0)⟩,0,[]),
(⟨some 44,none,.nilc (.tmp 43)⟩,1,[]),
(⟨some 45,none,.fad (.tmp 44) 3⟩,2,[]),
(⟨some 46,none,.load (.tmp 45) 1 false⟩,3,[]),
(⟨some 47,none,.mv (.tmp 1)⟩,4,[]),
(⟨some 48,none,.lkp .s (.tmp 46) (.tmp 47) (.vec [] .full) false⟩,5,[]),
(⟨some 49,none,.load (.tmp 5) 4 true⟩,6,[]),
(⟨some 50,none,.mv (.tmp 9)⟩,7,[]),
(⟨some 51,none,.call 76 [(.tmp 49),(.tmp 50)]⟩,8,[3,5]),
(⟨some 52,none,.idxS (.tmp 48) (.tmp 51) 1⟩,9,[]),
(⟨some 53,none,.load (.tmp 52) 1 false⟩,10,[]),
(⟨some 54,none,.call 102 [(.tmp 53)]⟩,11,[]),
(⟨none,none,.store (.tmp 6) (.tmp 54) 4⟩,12,[])])
(.ret))
(.skip))))
(.seq (.reg [⟨some 55,none,.call 53 [(.cst (.int .i64 4))]⟩])
(.seq (.reg [⟨some 56,none,.bld [(.int .i64 0),(.int .i64 0),(.bool false),(.int .u64 0)] []⟩,
⟨none,none,.store (.tmp 6) (.tmp 56) 4⟩])
(.ret)))))⟩
theorem tr91:trF Go.Proofs.Tryd.prog { obj:=[],bare:=[],loops:=[],draws:=[(7,([0,1,3,7,0,31,0,0,192,511,1023,2047,4095],[(0,[]),(1,[]),(2,[]),(3,[]),(4,[]),(5,[]),(6,[]),(7,[]),(8,[3,5]),(9,[]),(10,[]),(11,[]),(12,[])]))],glob:=globs,fresh:=false } Go.Proofs.Tryd.f91=some ir91:=by kernel_rfl
def ir92:IFn:=⟨81,[.cell 6 4 true false],
.seq (.reg [⟨some 4,none,.box (.tmp 1) false⟩,
⟨some 5,none,.box (.tmp 2) false⟩,
⟨some 6,none,.allocz [(.int .i64 0),(.int .i64 0),(.bool false),(.int .u64 0)] false⟩])
(.seq (.reg [⟨some 7,none,.mv (.cst (.int .i64 1))⟩])
(.seq (.seq (.reg [⟨some 9,none,.mv (.tmp 0)⟩,
⟨some 10,none,.bin .eql .plain (.tmp 9) (.cst (.int .i64 6))⟩,
⟨some 11,none,.mv (.tmp 10)⟩,
⟨some 12,some (11,false),.mv (.tmp 0)⟩,
⟨some 13,some (11,false),.bin .eql .plain (.tmp 12) (.cst (.int .i64 7))⟩,
⟨some 14,none,.pick (.tmp 11) (.cst (.bool true)) (.tmp 13)⟩])
(.cond (.tmp 14)
(.reg [⟨some 7,none,.mv (.cst (.int .i64 2))⟩])
(.skip)))
(.seq (.reg [⟨some 15,none,.load (.tmp 4) 4 true⟩,
⟨some 16,none,.mv (.tmp 7)⟩,
⟨some 17,none,.call 77 [(.tmp 15),(.tmp 16)]⟩])
(.seq (.reg [⟨some 18,none,.load (.tmp 5) 4 true⟩,
⟨some 19,none,.mv (.tmp 7)⟩,
⟨some 20,none,.call 77 [(.tmp 18),(.tmp 19)]⟩])
(.seq (.reg [⟨some 21,none,.load (.glob 0 [(.int .i64 2),(.int .i64 0),(.bool false),(.int .u64 0)]) 4 true⟩,
⟨some 8,none,.allocz [(.int .i64 0),(.int .i64 0),(.bool false),(.int .u64 0)] false⟩,
⟨none,none,.store (.tmp 8) (.tmp 21) 4⟩])
(.seq (.seq (.reg [⟨some 22,none,.mv (.tmp 0)⟩])
(.block 0
(.seq (.reg [⟨some 25,none,.bin .eql .plain (.tmp 22) (.cst (.int .i64 1))⟩,
⟨some 24,none,.mv (.tmp 25)⟩])
(.cond (.tmp 24)
(.seq (.reg [⟨some 26,none,.fad (.tmp 4) 1⟩,
⟨some 27,none,.load (.tmp 26) 1 false⟩,
⟨some 28,none,.fad (.tmp 5) 1⟩,
⟨some 29,none,.load (.tmp 28) 1 false⟩,
⟨some 30,none,.max [(.tmp 27),(.tmp 29)]⟩,
⟨some 31,none,.bin .add .plain (.tmp 30) (.cst (.int .i64 1))⟩,
⟨some 32,none,.call 102 [(.tmp 31)]⟩,
⟨none,none,.store (.tmp 8) (.tmp 32) 4⟩])
(.reg [⟨some 33,none,.fad (.tmp 4) 3⟩,
⟨some 34,none,.load (.tmp 33) 1 false⟩,
⟨some 35,none,.fad (.tmp 5) 3⟩,
⟨some 36,none,.load (.tmp 35) 1 false⟩,
⟨some 37,none,.bin .add .plain (.tmp 34) (.tmp 36)⟩,
⟨some 38,none,.fad (.tmp 8) 3⟩,
⟨none,none,.store (.tmp 38) (.tmp 37) 1⟩]))
(.seq (.reg [⟨some 40,none,.bin .eql .plain (.tmp 22) (.cst (.int .i64 2))⟩,
⟨some 39,none,.mv (.tmp 40)⟩])
(.cond (.tmp 39)
(.seq (.reg [⟨some 41,none,.fad (.tmp 4) 1⟩,
⟨some 42,none,.load (.tmp 41) 1 false⟩,
⟨some 43,none,.call 102 [(.tmp 42)]⟩,
⟨none,none,.store (.tmp 8) (.tmp 43) 4⟩])
(.seq (.reg [⟨some 44,none,.fad (.tmp 4) 3⟩,
⟨some 45,none,.load (.tmp 44) 1 false⟩,
⟨some 46,none,.fad (.tmp 5) 3⟩,
⟨some 47,none,.load (.tmp 46) 1 false⟩,
⟨some 48,none,.bin .gtr .plain (.tmp 45) (.tmp 47)⟩])
(.cond (.tmp 48)
(.reg [⟨some 49,none,.fad (.tmp 4) 3⟩,
⟨some 50,none,.load (.tmp 49) 1 false⟩,
⟨some 51,none,.fad (.tmp 5) 3⟩,
⟨some 52,none,.load (.tmp 51) 1 false⟩,
⟨some 53,none,.bin .sub .plain (.tmp 50) (.tmp 52)⟩,
⟨some 54,none,.fad (.tmp 8) 3⟩,
⟨none,none,.store (.tmp 54) (.tmp 53) 1⟩])
(.skip))))
(.seq (.reg [⟨some 56,none,.bin .eql .plain (.tmp 22) (.cst (.int .i64 3))⟩,
⟨some 55,none,.mv (.tmp 56)⟩])
(.cond (.tmp 55)
(.seq (.reg [⟨some 57,none,.fad (.tmp 4) 1⟩,
⟨some 58,none,.load (.tmp 57) 1 false⟩,
⟨some 59,none,.fad (.tmp 5) 1⟩,
⟨some 60,none,.load (.tmp 59) 1 false⟩,
⟨some 61,none,.bin .add .plain (.tmp 58) (.tmp 60)⟩,
⟨some 62,none,.call 102 [(.tmp 61)]⟩,
⟨none,none,.store (.tmp 8) (.tmp 62) 4⟩])
(.reg [⟨some 63,none,.fad (.tmp 4) 3⟩,
⟨some 64,none,.load (.tmp 63) 1 false⟩,
⟨some 65,none,.fad (.tmp 5) 3⟩,
⟨some 66,none,.load (.tmp 65) 1 false⟩,
⟨some 67,none,.bin .mul .plain (.tmp 64) (.tmp 66)⟩,
⟨some 68,none,.fad (.tmp 8) 3⟩,
⟨none,none,.store (.tmp 68) (.tmp 67) 1⟩]))
(.seq (.reg [⟨some 23,none,.load (.glob 0 [(.int .i64 2),(.int .i64 0),(.bool false),(.int .u64 0)]) 4 true⟩,
⟨none,none,.store (.tmp 6) (.tmp 23) 4⟩])
(.ret))))))))))
(.seq (.reg [⟨some 69,none,.fad (.tmp 4) 2⟩,
⟨some 70,none,.load (.tmp 69) 1 false⟩,
⟨some 71,none,.mv (.tmp 70)⟩,
⟨some 72,some (71,true),.fad (.tmp 5) 2⟩,
⟨some 73,some (71,true),.load (.tmp 72) 1 false⟩,
⟨some 74,none,.pick (.tmp 71) (.tmp 73) (.cst (.bool false))⟩,
⟨some 75,none,.fad (.tmp 8) 2⟩,
⟨none,none,.store (.tmp 75) (.tmp 74) 1⟩])
(.seq (.seq (.reg [⟨some 76,none,.fad (.tmp 8) 2⟩,
⟨some 77,none,.load (.tmp 76) 1 false⟩,
⟨some 78,none,.un .not (.tmp 77)⟩])
(.cond (.tmp 78)
(.reg [⟨some 79,none,.fad (.tmp 8) 3⟩,
⟨none,none,.store (.tmp 79) (.cst (.int .u64 0)) 1⟩])
(.skip)))
(.seq (.reg [⟨some 80,none,.load (.tmp 8) 4 true⟩,
⟨none,none,.store (.tmp 6) (.tmp 80) 4⟩])
(.ret))))))))))⟩
theorem tr92:trF Go.Proofs.Tryd.prog { obj:=[],bare:=[],loops:=[],draws:=[],glob:=globs,fresh:=false } Go.Proofs.Tryd.f92=some ir92:=by kernel_rfl
def ir102:IFn:=⟨5,[.cell 2 4 true false],
.seq (.reg [⟨some 2,none,.allocz [(.int .i64 0),(.int .i64 0),(.bool false),(.int .u64 0)] false⟩])
(.seq (.reg [⟨some 3,none,.mv (.tmp 0)⟩,
⟨some 4,none,.bld [(.int .i64 0),(.int .i64 0),(.bool false),(.int .u64 0)] [(0,1,(.cst (.int .i64 1))),(1,1,(.tmp 3))]⟩,
⟨none,none,.store (.tmp 2) (.tmp 4) 4⟩])
(.ret))⟩
theorem tr102:trF Go.Proofs.Tryd.prog { obj:=[],bare:=[],loops:=[],draws:=[],glob:=globs,fresh:=false } Go.Proofs.Tryd.f102=some ir102:=by kernel_rfl
end Go.Ab.YtljoifdccjcidaaDoor
