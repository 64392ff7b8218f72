import Derived.Test.YtihmoaibgmhjeaaDoorDa
import Derived.Test.YtihmoaibgmhjeaaDoorProg
import Derived.KernelRfl
set_option maxRecDepth 100000
namespace Go.Ab.YtihmoaibgmhjeaaDoor
def globs : List (Nat × List V) := [(0, [.int .i64 5, .int .i64 7, .int .i64 13, .int .i64 17, .int .i64 19, .int .i64 31, .int .i64 61]), (1, [.int .i64 2, .int .i64 0, .bool false, .int .u64 0])]
def bytes0 : ByteArray := ⟨#[0, 1, 2, 2, 3, 3, 3, 3, 4, 4, 4, 4, 4, 4, 4, 4, 5, 5, 5, 5, 5, 5, 5, 5, 5, 5, 5, 5, 5, 5, 5, 5, 6, 6, 6, 6, 6, 6, 6, 6, 6, 6, 6, 6, 6, 6, 6, 6, 6, 6, 6, 6, 6, 6, 6, 6, 6, 6, 6, 6, 6, 6, 6, 6, 7, 7, 7, 7, 7, 7, 7, 7, 7, 7, 7, 7, 7, 7, 7, 7, 7, 7, 7, 7, 7, 7, 7, 7, 7, 7, 7, 7, 7, 7, 7, 7, 7, 7, 7, 7, 7, 7, 7, 7, 7, 7, 7, 7, 7, 7, 7, 7, 7, 7, 7, 7, 7, 7, 7, 7, 7, 7, 7, 7, 7, 7, 7, 7, 8, 8, 8, 8, 8, 8, 8, 8, 8, 8, 8, 8, 8, 8, 8, 8, 8, 8, 8, 8, 8, 8, 8, 8, 8, 8, 8, 8, 8, 8, 8, 8, 8, 8, 8, 8, 8, 8, 8, 8, 8, 8, 8, 8, 8, 8, 8, 8, 8, 8, 8, 8, 8, 8, 8, 8, 8, 8, 8, 8, 8, 8, 8, 8, 8, 8, 8, 8, 8, 8, 8, 8, 8, 8, 8, 8, 8, 8, 8, 8, 8, 8, 8, 8, 8, 8, 8, 8, 8, 8, 8, 8, 8, 8, 8, 8, 8, 8, 8, 8, 8, 8, 8, 8, 8, 8, 8, 8, 8, 8, 8, 8, 8, 8, 8, 8, 8, 8, 8, 8, 8, 8, 8, 8, 8, 8, 8, 8]⟩
def ir3 : IFn := ⟨15,[.tmp 2 false],
.seq (.reg [⟨some 1,none,.box (.tmp 0) false⟩,
⟨some 2,none,.mv (.cst (.bool false))⟩])
(.seq (.seq (.reg [⟨some 3,none,.load (.tmp 1) 3 true⟩,
⟨some 4,none,.call 9 [(.tmp 3),(.cst (.int .i64 300))]⟩,
⟨some 5,none,.un .not (.tmp 4)⟩])
(.cond (.tmp 5)
(.seq (.reg [⟨some 6,none,.call 10 []⟩,
⟨some 2,none,.mv (.tmp 6)⟩])
(.ret))
(.skip)))
(.seq (.draw [(⟨some 7,none,.call 10 []⟩,0,[]),
(⟨some 8,none,.mv (.tmp 7)⟩,1,[]),
(⟨some 9,some (8,true),.load (.tmp 1) 3 true⟩,2,[]),
(⟨some 11,some (8,true),.load (.tmp 1) 3 true⟩,4,[]),
(⟨some 10,some (8,true),.call 11 [(.tmp 9)]⟩,3,[3]),
(⟨some 12,some (8,true),.call 12 [(.tmp 11)]⟩,5,[]),
(⟨some 13,some (8,true),.bin .eql .plain (.tmp 10) (.tmp 12)⟩,6,[]),
(⟨some 14,none,.pick (.tmp 8) (.tmp 13) (.cst (.bool false))⟩,7,[]),
(⟨some 2,none,.mv (.tmp 14)⟩,8,[])])
(.ret)))⟩
theorem tr3 : trF Go.Proofs.Tryd.prog { obj := [],bare := [],loops := [],draws := [(3,([0,1,3,7,3,31,63,127,255],[(0,[]),(1,[]),(2,[]),(4,[]),(3,[3]),(5,[]),(6,[]),(7,[]),(8,[])]))],glob := globs,fresh := false } Go.Proofs.Tryd.f3 = some ir3 := by kernel_rfl
def ir4 : IFn := ⟨46,[.tmp 4 false],
.seq (.reg [⟨some 2,none,.box (.tmp 0) false⟩,
⟨some 4,none,.mv (.cst (.bool false))⟩])
(.seq (.seq (.reg [⟨some 10,none,.load (.tmp 2) 3 true⟩,
⟨some 11,none,.call 9 [(.tmp 10),(.cst (.int .i64 300))]⟩,
⟨some 12,none,.un .not (.tmp 11)⟩])
(.cond (.tmp 12)
(.seq (.reg [⟨some 13,none,.call 10 []⟩,
⟨some 4,none,.mv (.tmp 13)⟩])
(.ret))
(.skip)))
(.seq (.reg [⟨some 15,none,.load (.tmp 2) 3 true⟩,
⟨some 16,none,.call 13 [(.tmp 15)]⟩,
⟨some 14,none,.mv (.tmp 16)⟩,
⟨some 17,none,.ext (.tmp 14) 0⟩,
⟨some 18,none,.ext (.tmp 14) 1⟩,
⟨some 5,none,.mv (.tmp 17)⟩,
⟨some 6,none,.mv (.tmp 18)⟩])
(.seq (.reg [⟨some 20,none,.load (.tmp 2) 3 true⟩,
⟨some 21,none,.call 14 [(.tmp 20)]⟩,
⟨some 19,none,.mv (.tmp 21)⟩,
⟨some 22,none,.ext (.tmp 19) 0⟩,
⟨some 23,none,.ext (.tmp 19) 1⟩,
⟨some 7,none,.mv (.tmp 22)⟩,
⟨some 8,none,.mv (.tmp 23)⟩])
(.seq (.reg [⟨some 24,none,.mv (.tmp 1)⟩,
⟨some 25,none,.call 15 [(.tmp 24)]⟩,
⟨some 9,none,.mv (.tmp 25)⟩])
(.seq (.draw [(⟨some 26,none,.call 10 []⟩,0,[]),
(⟨some 27,none,.mv (.tmp 26)⟩,1,[]),
(⟨some 28,some (27,true),.mv (.tmp 5)⟩,2,[]),
(⟨some 29,some (27,true),.mv (.tmp 7)⟩,3,[]),
(⟨some 30,some (27,true),.bin .eql .plain (.tmp 28) (.tmp 29)⟩,4,[]),
(⟨some 31,none,.pick (.tmp 27) (.tmp 30) (.cst (.bool false))⟩,5,[]),
(⟨some 32,none,.mv (.tmp 31)⟩,6,[]),
(⟨some 33,some (32,true),.mv (.tmp 6)⟩,7,[]),
(⟨some 34,some (32,true),.mv (.tmp 8)⟩,8,[]),
(⟨some 35,some (32,true),.bin .eql .plain (.tmp 33) (.tmp 34)⟩,9,[]),
(⟨some 36,none,.pick (.tmp 32) (.tmp 35) (.cst (.bool false))⟩,10,[]),
(⟨some 37,none,.mv (.tmp 36)⟩,11,[]),
(⟨some 38,some (37,true),.load (.tmp 2) 3 true⟩,12,[]),
(⟨some 39,some (37,true),.mv (.tmp 9)⟩,13,[]),
(⟨some 41,some (37,true),.load (.tmp 2) 3 true⟩,15,[]),
(⟨some 42,some (37,true),.mv (.tmp 9)⟩,16,[]),
(⟨some 40,some (37,true),.call 16 [(.tmp 38),(.tmp 39)]⟩,14,[14]),
(⟨some 43,some (37,true),.call 17 [(.tmp 41),(.tmp 42)]⟩,17,[]),
(⟨some 44,some (37,true),.bin .eql .plain (.tmp 40) (.tmp 43)⟩,18,[]),
(⟨some 45,none,.pick (.tmp 37) (.tmp 44) (.cst (.bool false))⟩,19,[]),
(⟨some 4,none,.mv (.tmp 45)⟩,20,[])])
(.ret))))))⟩
theorem tr4 : trF Go.Proofs.Tryd.prog { obj := [],bare := [],loops := [],draws := [(6,([0,1,3,3,15,31,63,127,127,511,1023,2047,4095,4095,16383,4095,4095,131071,262143,524287,1048575],[(0,[]),(1,[]),(2,[]),(3,[]),(4,[]),(5,[]),(6,[]),(7,[]),(8,[]),(9,[]),(10,[]),(11,[]),(12,[]),(13,[]),(15,[]),(16,[]),(14,[14]),(17,[]),(18,[]),(19,[]),(20,[])]))],glob := globs,fresh := false } Go.Proofs.Tryd.f4 = some ir4 := by kernel_rfl
def ir5 : IFn := ⟨55,[.tmp 2 false],
.seq (.reg [⟨some 1,none,.box (.tmp 0) false⟩,
⟨some 2,none,.mv (.cst (.bool false))⟩])
(.seq (.seq (.reg [⟨some 7,none,.load (.tmp 1) 3 true⟩,
⟨some 8,none,.call 9 [(.tmp 7),(.cst (.int .i64 300))]⟩,
⟨some 9,none,.un .not (.tmp 8)⟩,
⟨some 10,none,.mv (.tmp 9)⟩,
⟨some 11,some (10,false),.fad (.tmp 1) 2⟩,
⟨some 12,some (10,false),.load (.tmp 11) 1 false⟩,
⟨some 13,some (10,false),.len .i (.tmp 12)⟩,
⟨some 14,some (10,false),.bin .eql .plain (.tmp 13) (.cst (.int .i64 0))⟩,
⟨some 15,none,.pick (.tmp 10) (.cst (.bool true)) (.tmp 14)⟩])
(.cond (.tmp 15)
(.seq (.reg [⟨some 16,none,.call 10 []⟩,
⟨some 2,none,.mv (.tmp 16)⟩])
(.ret))
(.skip)))
(.seq (.reg [⟨some 18,none,.load (.tmp 1) 3 true⟩,
⟨some 19,none,.call 13 [(.tmp 18)]⟩,
⟨some 17,none,.mv (.tmp 19)⟩,
⟨some 20,none,.ext (.tmp 17) 0⟩,
⟨some 21,none,.ext (.tmp 17) 1⟩,
⟨some 3,none,.mv (.tmp 20)⟩,
⟨some 4,none,.mv (.tmp 21)⟩])
(.seq (.seq (.reg [⟨some 22,none,.mv (.tmp 4)⟩,
⟨some 23,none,.bin .neq .plain (.tmp 22) (.cst (.int .i64 0))⟩])
(.cond (.tmp 23)
(.seq (.reg [⟨some 24,none,.call 10 []⟩,
⟨some 25,none,.mv (.tmp 24)⟩,
⟨some 26,some (25,true),.mv (.tmp 3)⟩,
⟨some 27,some (25,true),.bin .eql .plain (.tmp 26) (.cst (.int .i64 0))⟩,
⟨some 28,none,.pick (.tmp 25) (.tmp 27) (.cst (.bool false))⟩,
⟨some 2,none,.mv (.tmp 28)⟩])
(.ret))
(.skip)))
(.seq (.draw [(⟨some 30,none,.fad (.tmp 1) 0⟩,0,[]),
(⟨some 31,none,.load (.tmp 30) 1 false⟩,1,[]),
(⟨some 32,none,.fad (.tmp 1) 1⟩,2,[]),
(⟨some 33,none,.load (.tmp 32) 1 false⟩,3,[]),
(⟨some 34,none,.fad (.tmp 1) 2⟩,4,[]),
(⟨some 35,none,.load (.tmp 34) 1 false⟩,5,[]),
(⟨some 36,none,.fad (.tmp 1) 2⟩,6,[]),
(⟨some 37,none,.load (.tmp 36) 1 false⟩,7,[]),
(⟨some 38,none,.len .i (.tmp 37)⟩,8,[]),
(⟨some 39,none,.bin .sub .plain (.tmp 38) (.cst (.int .i64 1))⟩,9,[]),
(⟨some 40,none,.slc (.tmp 35) none (some (.tmp 39)) none 5⟩,10,[]),
(⟨some 41,none,.bld [(.vec [] .any),(.vec [] .any),(.vec [] .any)] [(0,1,(.tmp 31)),(1,1,(.tmp 33)),(2,1,(.tmp 40))]⟩,11,[]),
(⟨some 42,none,.call 13 [(.tmp 41)]⟩,12,[]),
(⟨some 29,none,.mv (.tmp 42)⟩,13,[]),
(⟨some 43,none,.ext (.tmp 29) 0⟩,14,[]),
(⟨some 44,none,.ext (.tmp 29) 1⟩,15,[]),
(⟨some 5,none,.mv (.tmp 43)⟩,16,[]),
(⟨some 6,none,.mv (.tmp 44)⟩,17,[])])
(.seq (.reg [⟨some 45,none,.call 10 []⟩,
⟨some 46,none,.mv (.tmp 45)⟩,
⟨some 47,some (46,true),.mv (.tmp 6)⟩,
⟨some 48,some (46,true),.bin .eql .plain (.tmp 47) (.cst (.int .i64 0))⟩,
⟨some 49,none,.pick (.tmp 46) (.tmp 48) (.cst (.bool false))⟩,
⟨some 50,none,.mv (.tmp 49)⟩,
⟨some 51,some (50,true),.mv (.tmp 5)⟩,
⟨some 52,some (50,true),.mv (.tmp 3)⟩,
⟨some 53,some (50,true),.bin .leq .plain (.tmp 51) (.tmp 52)⟩,
⟨some 54,none,.pick (.tmp 50) (.tmp 53) (.cst (.bool false))⟩,
⟨some 2,none,.mv (.tmp 54)⟩])
(.ret))))))⟩
theorem tr5 : trF Go.Proofs.Tryd.prog { obj := [],bare := [],loops := [],draws := [(6,([0,1,0,4,0,16,0,64,192,448,1008,2047,4095,8191,16383,16383,32767,131071],[(0,[]),(1,[]),(2,[]),(3,[]),(4,[]),(5,[]),(6,[]),(7,[]),(8,[]),(9,[]),(10,[]),(11,[]),(12,[]),(13,[]),(14,[]),(15,[]),(16,[]),(17,[])]))],glob := globs,fresh := false } Go.Proofs.Tryd.f5 = some ir5 := by kernel_rfl
def ir6 : IFn := ⟨76,[.tmp 4 false],
.seq (.reg [⟨some 2,none,.box (.tmp 0) false⟩,
⟨some 3,none,.box (.tmp 1) false⟩,
⟨some 4,none,.mv (.cst (.bool false))⟩])
(.seq (.seq (.reg [⟨some 11,none,.load (.tmp 2) 3 true⟩,
⟨some 12,none,.call 9 [(.tmp 11),(.cst (.int .i64 300))]⟩,
⟨some 13,none,.un .not (.tmp 12)⟩])
(.cond (.tmp 13)
(.seq (.reg [⟨some 14,none,.call 10 []⟩,
⟨some 4,none,.mv (.tmp 14)⟩])
(.ret))
(.skip)))
(.seq (.draw [(⟨some 15,none,.idxP (.tmp 3) (.cst (.int .i64 0)) 2 1⟩,0,[]),
(⟨some 16,none,.load (.tmp 15) 1 false⟩,1,[]),
(⟨some 18,none,.idxP (.tmp 3) (.cst (.int .i64 1)) 2 1⟩,3,[]),
(⟨some 19,none,.load (.tmp 18) 1 false⟩,4,[]),
(⟨some 17,none,.call 15 [(.tmp 16)]⟩,2,[3]),
(⟨some 20,none,.call 15 [(.tmp 19)]⟩,5,[]),
(⟨some 5,none,.mv (.tmp 17)⟩,6,[]),
(⟨some 6,none,.mv (.tmp 20)⟩,7,[])])
(.seq (.seq (.reg [⟨some 21,none,.mv (.tmp 5)⟩,
⟨some 22,none,.mv (.tmp 6)⟩,
⟨some 23,none,.bin .gtr .plain (.tmp 21) (.tmp 22)⟩])
(.cond (.tmp 23)
(.reg [⟨some 24,none,.mv (.tmp 6)⟩,
⟨some 25,none,.mv (.tmp 5)⟩,
⟨some 5,none,.mv (.tmp 24)⟩,
⟨some 6,none,.mv (.tmp 25)⟩])
(.skip)))
(.seq (.reg [⟨some 27,none,.load (.tmp 2) 3 true⟩,
⟨some 28,none,.call 13 [(.tmp 27)]⟩,
⟨some 26,none,.mv (.tmp 28)⟩,
⟨some 29,none,.ext (.tmp 26) 0⟩,
⟨some 30,none,.ext (.tmp 26) 1⟩,
⟨some 7,none,.mv (.tmp 29)⟩,
⟨some 8,none,.mv (.tmp 30)⟩])
(.seq (.draw [(⟨some 31,none,.load (.tmp 2) 3 true⟩,0,[]),
(⟨some 32,none,.mv (.tmp 5)⟩,1,[]),
(⟨some 34,none,.load (.tmp 2) 3 true⟩,3,[]),
(⟨some 35,none,.mv (.tmp 6)⟩,4,[]),
(⟨some 33,none,.call 16 [(.tmp 31),(.tmp 32)]⟩,2,[2]),
(⟨some 36,none,.call 16 [(.tmp 34),(.tmp 35)]⟩,5,[]),
(⟨some 9,none,.mv (.tmp 33)⟩,6,[]),
(⟨some 10,none,.mv (.tmp 36)⟩,7,[])])
(.seq (.seq (.reg [⟨some 37,none,.mv (.tmp 8)⟩,
⟨some 38,none,.bin .neq .plain (.tmp 37) (.cst (.int .i64 0))⟩])
(.cond (.tmp 38)
(.seq (.reg [⟨some 39,none,.call 10 []⟩,
⟨some 40,none,.mv (.tmp 39)⟩,
⟨some 41,some (40,true),.mv (.tmp 9)⟩,
⟨some 42,some (40,true),.mv (.tmp 8)⟩,
⟨some 43,some (40,true),.bin .eql .plain (.tmp 41) (.tmp 42)⟩,
⟨some 44,none,.pick (.tmp 40) (.tmp 43) (.cst (.bool false))⟩,
⟨some 45,none,.mv (.tmp 44)⟩,
⟨some 46,some (45,true),.mv (.tmp 10)⟩,
⟨some 47,some (45,true),.mv (.tmp 8)⟩,
⟨some 48,some (45,true),.bin .eql .plain (.tmp 46) (.tmp 47)⟩,
⟨some 49,none,.pick (.tmp 45) (.tmp 48) (.cst (.bool false))⟩,
⟨some 4,none,.mv (.tmp 49)⟩])
(.ret))
(.skip)))
(.seq (.reg [⟨some 50,none,.call 10 []⟩,
⟨some 51,none,.mv (.tmp 50)⟩,
⟨some 52,some (51,true),.mv (.tmp 9)⟩,
⟨some 53,some (51,true),.bin .neq .plain (.tmp 52) (.cst (.int .i64 0))⟩,
⟨some 54,some (51,true),.mv (.tmp 53)⟩,
⟨some 55,some (54,false),.mv (.tmp 10)⟩,
⟨some 56,some (54,false),.bin .eql .plain (.tmp 55) (.cst (.int .i64 0))⟩,
⟨some 57,some (51,true),.pick (.tmp 54) (.cst (.bool true)) (.tmp 56)⟩,
⟨some 58,none,.pick (.tmp 51) (.tmp 57) (.cst (.bool false))⟩,
⟨some 59,none,.mv (.tmp 58)⟩,
⟨some 60,some (59,true),.mv (.tmp 9)⟩,
⟨some 61,some (59,true),.bin .eql .plain (.tmp 60) (.cst (.int .i64 0))⟩,
⟨some 62,some (59,true),.mv (.tmp 7)⟩,
⟨some 63,some (59,true),.mv (.tmp 5)⟩,
⟨some 64,some (59,true),.call 18 [(.tmp 63)]⟩,
⟨some 65,some (59,true),.bin .lss .plain (.tmp 62) (.tmp 64)⟩,
⟨some 66,some (59,true),.bin .eql .bool (.tmp 61) (.tmp 65)⟩,
⟨some 67,none,.pick (.tmp 59) (.tmp 66) (.cst (.bool false))⟩,
⟨some 68,none,.mv (.tmp 67)⟩,
⟨some 69,some (68,true),.mv (.tmp 9)⟩,
⟨some 70,some (68,true),.bin .eql .plain (.tmp 69) (.cst (.int .i64 0))⟩,
⟨some 71,some (68,true),.mv (.tmp 70)⟩,
⟨some 72,some (71,false),.mv (.tmp 9)⟩,
⟨some 73,some (71,false),.bin .eql .plain (.tmp 72) (.cst (.int .i64 11))⟩,
⟨some 74,some (68,true),.pick (.tmp 71) (.cst (.bool true)) (.tmp 73)⟩,
⟨some 75,none,.pick (.tmp 68) (.tmp 74) (.cst (.bool false))⟩,
⟨some 4,none,.mv (.tmp 75)⟩])
(.ret))))))))⟩
theorem tr6 : trF Go.Proofs.Tryd.prog { obj := [],bare := [],loops := [],draws := [(3,([0,1,3,0,8,31,63,127],[(0,[]),(1,[]),(3,[]),(4,[]),(2,[3]),(5,[]),(6,[]),(7,[])])),(7,([0,0,3,0,0,31,63,127],[(0,[]),(1,[]),(3,[]),(4,[]),(2,[2]),(5,[]),(6,[]),(7,[])]))],glob := globs,fresh := false } Go.Proofs.Tryd.f6 = some ir6 := by kernel_rfl
def ir7 : IFn := ⟨98,[.tmp 4 false],
.seq (.reg [⟨some 4,none,.mv (.cst (.bool false))⟩])
(.seq (.seq (.reg [⟨some 14,none,.mv (.tmp 0)⟩,
⟨some 15,none,.len .i (.tmp 14)⟩,
⟨some 16,none,.bin .eql .plain (.tmp 15) (.cst (.int .i64 0))⟩,
⟨some 17,none,.mv (.tmp 16)⟩,
⟨some 18,some (17,false),.mv (.tmp 0)⟩,
⟨some 19,some (17,false),.len .i (.tmp 18)⟩,
⟨some 20,some (17,false),.bin .gtr .plain (.tmp 19) (.cst (.int .i64 20))⟩,
⟨some 21,none,.pick (.tmp 17) (.cst (.bool true)) (.tmp 20)⟩])
(.cond (.tmp 21)
(.seq (.reg [⟨some 22,none,.call 10 []⟩,
⟨some 4,none,.mv (.tmp 22)⟩])
(.ret))
(.skip)))
(.seq (.reg [⟨some 23,none,.mv (.tmp 0)⟩,
⟨some 24,none,.idxS (.tmp 23) (.cst (.int .i64 0)) 1⟩,
⟨some 25,none,.load (.tmp 24) 1 false⟩,
⟨some 26,none,.bin .rem .plain (.tmp 25) (.cst (.int .u64 1000))⟩,
⟨some 27,none,.call 19 [(.tmp 26)]⟩,
⟨some 5,none,.allocz [(.int .i64 0),(.int .i64 0),(.int .u64 0),(.str ⟨#[]⟩),(.vec [] .full)] false⟩,
⟨none,none,.store (.tmp 5) (.tmp 27) 5⟩])
(.seq (.reg [⟨some 28,none,.mv (.tmp 0)⟩,
⟨some 29,none,.idxS (.tmp 28) (.cst (.int .i64 0)) 1⟩,
⟨some 30,none,.load (.tmp 29) 1 false⟩,
⟨some 31,none,.bin .rem .plain (.tmp 30) (.cst (.int .u64 1000))⟩,
⟨some 32,none,.call 20 [(.tmp 31)]⟩,
⟨some 6,none,.mv (.tmp 32)⟩])
(.seq (.reg [⟨some 33,none,.mv (.tmp 6)⟩,
⟨some 7,none,.mv (.tmp 33)⟩])
(.seq (.seq (.reg [⟨some 8,none,.mv (.cst (.int .i64 1))⟩])
(.block 0
(.loop [0,1,5,6,7,8]
(.seq (.seq (.reg [⟨some 34,none,.mv (.tmp 8)⟩,
⟨some 35,none,.mv (.tmp 0)⟩,
⟨some 36,none,.len .i (.tmp 35)⟩,
⟨some 37,none,.bin .lss .plain (.tmp 34) (.tmp 36)⟩])
(.cond (.tmp 37)
(.skip)
(.brk 0)))
(.seq (.block 1
(.seq (.reg [⟨some 40,none,.mv (.tmp 0)⟩,
⟨some 41,none,.mv (.tmp 8)⟩,
⟨some 42,none,.idxS (.tmp 40) (.tmp 41) 1⟩,
⟨some 43,none,.load (.tmp 42) 1 false⟩,
⟨some 44,none,.bin .rem .plain (.tmp 43) (.cst (.int .u64 1000))⟩,
⟨some 9,none,.mv (.tmp 44)⟩])
(.seq (.reg [⟨some 45,none,.mv (.tmp 9)⟩,
⟨some 46,none,.call 20 [(.tmp 45)]⟩,
⟨some 10,none,.mv (.tmp 46)⟩])
(.seq (.seq (.reg [⟨some 47,none,.mv (.tmp 1)⟩])
(.cond (.tmp 47)
(.draw [(⟨some 48,none,.load (.tmp 5) 5 true⟩,0,[]),
(⟨some 49,none,.mv (.tmp 9)⟩,1,[]),
(⟨some 52,none,.mv (.tmp 6)⟩,4,[]),
(⟨some 53,none,.mv (.tmp 10)⟩,5,[]),
(⟨some 54,none,.bin .add .plain (.tmp 52) (.tmp 53)⟩,6,[]),
(⟨some 50,none,.call 19 [(.tmp 49)]⟩,2,[0]),
(⟨some 51,none,.call 21 [(.cst (.int .i64 3)),(.tmp 48),(.tmp 50)]⟩,3,[]),
(⟨none,none,.store (.tmp 5) (.tmp 51) 5⟩,7,[]),
(⟨some 6,none,.mv (.tmp 54)⟩,8,[])])
(.draw [(⟨some 55,none,.load (.tmp 5) 5 true⟩,0,[]),
(⟨some 56,none,.mv (.tmp 9)⟩,1,[]),
(⟨some 59,none,.mv (.tmp 6)⟩,4,[]),
(⟨some 60,none,.mv (.tmp 10)⟩,5,[]),
(⟨some 61,none,.max [(.tmp 59),(.tmp 60)]⟩,6,[]),
(⟨some 62,none,.bin .add .plain (.tmp 61) (.cst (.int .i64 1))⟩,7,[]),
(⟨some 57,none,.call 19 [(.tmp 56)]⟩,2,[0]),
(⟨some 58,none,.call 21 [(.cst (.int .i64 1)),(.tmp 55),(.tmp 57)]⟩,3,[]),
(⟨none,none,.store (.tmp 5) (.tmp 58) 5⟩,8,[]),
(⟨some 6,none,.mv (.tmp 62)⟩,9,[])])))
(.reg [⟨some 63,none,.mv (.tmp 7)⟩,
⟨some 64,none,.mv (.tmp 10)⟩,
⟨some 65,none,.mv (.tmp 6)⟩,
⟨some 66,none,.max [(.tmp 63),(.tmp 64),(.tmp 65)]⟩,
⟨some 7,none,.mv (.tmp 66)⟩])))))
(.reg [⟨some 38,none,.mv (.tmp 8)⟩,
⟨some 39,none,.bin .add .plain (.tmp 38) (.cst (.int .i64 1))⟩,
⟨some 8,none,.mv (.tmp 39)⟩]))))))
(.seq (.reg [⟨some 67,none,.load (.tmp 5) 5 true⟩,
⟨some 68,none,.bsl 1 5 true [(.int .i64 0),(.int .i64 0),(.int .u64 0),(.str ⟨#[]⟩),(.vec [] .any)] [(0,5,(.tmp 67))]⟩,
⟨some 69,none,.bld [(.int .i64 0),(.str ⟨#[]⟩),(.vec [] .any),(.vec [] .any),(.vec [] .any)] [(0,1,(.cst (.int .i64 5))),(2,1,(.tmp 68))]⟩,
⟨some 70,none,.bsl 1 5 true [(.int .i64 0),(.str ⟨#[]⟩),(.vec [] .any),(.vec [] .any),(.vec [] .any)] [(0,5,(.tmp 69))]⟩,
⟨some 71,none,.bld [(.vec [] .any),(.vec [] .any),(.vec [] .any)] [(2,1,(.tmp 70))]⟩,
⟨some 11,none,.allocz [(.vec [] .full),(.vec [] .full),(.vec [] .full)] false⟩,
⟨none,none,.store (.tmp 11) (.tmp 71) 3⟩])
(.seq (.reg [⟨some 73,none,.load (.tmp 11) 3 true⟩,
⟨some 74,none,.call 13 [(.tmp 73)]⟩,
⟨some 72,none,.mv (.tmp 74)⟩,
⟨some 75,none,.ext (.tmp 72) 0⟩,
⟨some 76,none,.ext (.tmp 72) 1⟩,
⟨some 12,none,.mv (.tmp 75)⟩,
⟨some 13,none,.mv (.tmp 76)⟩])
(.seq (.seq (.reg [⟨some 77,none,.mv (.tmp 7)⟩,
⟨some 78,none,.bin .gtr .plain (.tmp 77) (.cst (.int .i64 60))⟩])
(.cond (.tmp 78)
(.seq (.reg [⟨some 79,none,.call 10 []⟩,
⟨some 80,none,.mv (.tmp 79)⟩,
⟨some 81,some (80,true),.mv (.tmp 13)⟩,
⟨some 82,some (80,true),.bin .eql .plain (.tmp 81) (.cst (.int .i64 11))⟩,
⟨some 83,none,.pick (.tmp 80) (.tmp 82) (.cst (.bool false))⟩,
⟨some 84,none,.mv (.tmp 83)⟩,
⟨some 85,some (84,true),.mv (.tmp 12)⟩,
⟨some 86,some (84,true),.bin .eql .plain (.tmp 85) (.cst (.int .i64 0))⟩,
⟨some 87,none,.pick (.tmp 84) (.tmp 86) (.cst (.bool false))⟩,
⟨some 4,none,.mv (.tmp 87)⟩])
(.ret))
(.skip)))
(.seq (.reg [⟨some 88,none,.call 10 []⟩,
⟨some 89,none,.mv (.tmp 88)⟩,
⟨some 90,some (89,true),.mv (.tmp 13)⟩,
⟨some 91,some (89,true),.bin .eql .plain (.tmp 90) (.cst (.int .i64 0))⟩,
⟨some 92,none,.pick (.tmp 89) (.tmp 91) (.cst (.bool false))⟩,
⟨some 93,none,.mv (.tmp 92)⟩,
⟨some 94,some (93,true),.mv (.tmp 12)⟩,
⟨some 95,some (93,true),.mv (.tmp 7)⟩,
⟨some 96,some (93,true),.bin .eql .plain (.tmp 94) (.tmp 95)⟩,
⟨some 97,none,.pick (.tmp 93) (.tmp 96) (.cst (.bool false))⟩,
⟨some 4,none,.mv (.tmp 97)⟩])
(.ret))))))))))⟩
theorem tr7 : trF Go.Proofs.Tryd.prog { obj := [],bare := [],loops := [[0,1,5,6,7,8]],draws := [(12,([0,0,2,7,0,0,48,15,255],[(0,[]),(1,[]),(4,[]),(5,[]),(6,[]),(2,[0]),(3,[]),(7,[]),(8,[])])),(13,([0,0,2,7,0,0,48,112,15,511],[(0,[]),(1,[]),(4,[]),(5,[]),(6,[]),(7,[]),(2,[0]),(3,[]),(8,[]),(9,[])]))],glob := globs,fresh := false } Go.Proofs.Tryd.f7 = some ir7 := by kernel_rfl
def ir8 : IFn := ⟨64,[.tmp 4 false],
.seq (.reg [⟨some 4,none,.mv (.cst (.bool false))⟩])
(.seq (.reg [⟨some 11,none,.mv (.tmp 0)⟩,
⟨some 12,none,.bin .rem .plain (.tmp 11) (.cst (.int .u16 2000))⟩,
⟨some 13,none,.cvI .u64 (.tmp 12)⟩,
⟨some 14,none,.mv (.tmp 1)⟩,
⟨some 15,none,.bin .rem .plain (.tmp 14) (.cst (.int .u16 20000))⟩,
⟨some 16,none,.cvI .u64 (.tmp 15)⟩,
⟨some 5,none,.mv (.tmp 13)⟩,
⟨some 6,none,.mv (.tmp 16)⟩])
(.seq (.seq (.reg [⟨some 17,none,.mv (.tmp 5)⟩,
⟨some 18,none,.mv (.tmp 6)⟩,
⟨some 19,none,.bin .mul .plain (.tmp 17) (.tmp 18)⟩,
⟨some 20,none,.bin .gtr .plain (.tmp 19) (.cst (.int .u64 400000))⟩,
⟨some 21,none,.mv (.tmp 20)⟩,
⟨some 22,some (21,true),.mv (.tmp 5)⟩,
⟨some 23,some (21,true),.bin .gtr .plain (.tmp 22) (.cst (.int .u64 200))⟩,
⟨some 24,none,.pick (.tmp 21) (.tmp 23) (.cst (.bool false))⟩])
(.cond (.tmp 24)
(.seq (.reg [⟨some 25,none,.call 10 []⟩,
⟨some 4,none,.mv (.tmp 25)⟩])
(.ret))
(.skip)))
(.seq (.reg [⟨some 26,none,.call 19 [(.cst (.int .u64 1))]⟩,
⟨some 27,none,.mv (.tmp 6)⟩,
⟨some 28,none,.call 19 [(.tmp 27)]⟩,
⟨some 29,none,.bsl 2 5 true [(.int .i64 0),(.int .i64 0),(.int .u64 0),(.str ⟨#[]⟩),(.vec [] .any)] [(0,5,(.tmp 26)),(5,5,(.tmp 28))]⟩,
⟨some 30,none,.call 19 [(.cst (.int .u64 0))]⟩,
⟨some 31,none,.bsl 1 5 true [(.int .i64 0),(.int .i64 0),(.int .u64 0),(.str ⟨#[]⟩),(.vec [] .any)] [(0,5,(.tmp 30))]⟩,
⟨some 32,none,.bld [(.int .i64 0),(.str ⟨#[]⟩),(.vec [] .any),(.vec [] .any),(.vec [] .any)] [(0,1,(.cst (.int .i64 1))),(1,1,(.cst (.str ⟨#[120]⟩))),(2,1,(.tmp 31))]⟩,
⟨some 33,none,.bsl 1 5 true [(.int .i64 0),(.str ⟨#[]⟩),(.vec [] .any),(.vec [] .any),(.vec [] .any)] [(0,5,(.tmp 32))]⟩,
⟨some 34,none,.bld [(.int .i64 0),(.str ⟨#[]⟩),(.vec [] .any),(.vec [] .any),(.vec [] .any)] [(0,1,(.cst (.int .i64 4))),(1,1,(.cst (.str ⟨#[107]⟩))),(2,1,(.tmp 29)),(3,1,(.tmp 33))]⟩,
⟨some 7,none,.allocz [(.int .i64 0),(.str ⟨#[]⟩),(.vec [] .full),(.vec [] .full),(.vec [] .full)] false⟩,
⟨none,none,.store (.tmp 7) (.tmp 34) 5⟩])
(.seq (.draw [(⟨some 36,none,.mv (.tmp 5)⟩,1,[]),
(⟨some 39,none,.load (.tmp 7) 5 true⟩,4,[]),
(⟨some 40,none,.bsl 1 5 true [(.int .i64 0),(.str ⟨#[]⟩),(.vec [] .any),(.vec [] .any),(.vec [] .any)] [(0,5,(.tmp 39))]⟩,5,[]),
(⟨some 8,none,.bare 5⟩,7,[]),
(⟨some 35,none,.call 19 [(.cst (.int .u64 1))]⟩,0,[1]),
(⟨some 37,none,.call 19 [(.tmp 36)]⟩,2,[1]),
(⟨some 38,none,.bsl 2 5 true [(.int .i64 0),(.int .i64 0),(.int .u64 0),(.str ⟨#[]⟩),(.vec [] .any)] [(0,5,(.tmp 35)),(5,5,(.tmp 37))]⟩,3,[]),
(⟨some 41,none,.bld [(.int .i64 0),(.str ⟨#[]⟩),(.vec [] .any),(.vec [] .any),(.vec [] .any)] [(0,1,(.cst (.int .i64 4))),(1,1,(.cst (.str ⟨#[105]⟩))),(2,1,(.tmp 38)),(3,1,(.tmp 40))]⟩,6,[]),
(⟨none,none,.store (.tmp 8) (.tmp 41) 5⟩,8,[])])
(.seq (.reg [⟨some 42,none,.mv (.tmp 5)⟩,
⟨some 43,none,.mv (.tmp 6)⟩,
⟨some 44,none,.bin .mul .plain (.cst (.int .u64 2)) (.tmp 43)⟩,
⟨some 45,none,.bin .add .plain (.cst (.int .u64 2)) (.tmp 44)⟩,
⟨some 46,none,.bin .mul .plain (.tmp 42) (.tmp 45)⟩,
⟨some 47,none,.bin .add .plain (.cst (.int .u64 1)) (.tmp 46)⟩,
⟨some 9,none,.mv (.tmp 47)⟩])
(.seq (.reg [⟨some 48,none,.load (.tmp 8) 5 true⟩,
⟨some 49,none,.bsl 1 5 true [(.int .i64 0),(.str ⟨#[]⟩),(.vec [] .any),(.vec [] .any),(.vec [] .any)] [(0,5,(.tmp 48))]⟩,
⟨some 50,none,.bld [(.vec [] .any),(.vec [] .any),(.vec [] .any)] [(2,1,(.tmp 49))]⟩,
⟨some 51,none,.call 11 [(.tmp 50)]⟩,
⟨some 10,none,.mv (.tmp 51)⟩])
(.seq (.seq (.reg [⟨some 52,none,.mv (.tmp 9)⟩,
⟨some 53,none,.bin .gtr .plain (.tmp 52) (.cst (.int .u64 10000))⟩])
(.cond (.tmp 53)
(.seq (.reg [⟨some 54,none,.call 10 []⟩,
⟨some 55,none,.mv (.tmp 54)⟩,
⟨some 56,some (55,true),.mv (.tmp 10)⟩,
⟨some 57,some (55,true),.bin .eql .plain (.tmp 56) (.cst (.int .i64 2))⟩,
⟨some 58,none,.pick (.tmp 55) (.tmp 57) (.cst (.bool false))⟩,
⟨some 4,none,.mv (.tmp 58)⟩])
(.ret))
(.skip)))
(.seq (.reg [⟨some 59,none,.call 10 []⟩,
⟨some 60,none,.mv (.tmp 59)⟩,
⟨some 61,some (60,true),.mv (.tmp 10)⟩,
⟨some 62,some (60,true),.bin .eql .plain (.tmp 61) (.cst (.int .i64 0))⟩,
⟨some 63,none,.pick (.tmp 60) (.tmp 62) (.cst (.bool false))⟩,
⟨some 4,none,.mv (.tmp 63)⟩])
(.ret)))))))))⟩
theorem tr8 : trF Go.Proofs.Tryd.prog { obj := [],bare := [8],loops := [],draws := [(5,([0,0,3,7,0,16,63,0,255],[(1,[]),(4,[]),(5,[]),(7,[]),(0,[1]),(2,[1]),(3,[]),(6,[]),(8,[])]))],glob := globs,fresh := false } Go.Proofs.Tryd.f8 = some ir8 := by kernel_rfl
def ir9 : IFn := ⟨31,[.tmp 4 false],
.seq (.reg [⟨some 2,none,.box (.tmp 0) false⟩,
⟨some 4,none,.mv (.cst (.bool false))⟩])
(.seq (.reg [⟨some 5,none,.fad (.tmp 2) 0⟩,
⟨some 6,none,.load (.tmp 5) 1 false⟩,
⟨some 7,none,.len .i (.tmp 6)⟩,
⟨some 8,none,.bin .leq .plain (.tmp 7) (.cst (.int .i64 20))⟩,
⟨some 9,none,.mv (.tmp 8)⟩,
⟨some 10,some (9,true),.fad (.tmp 2) 1⟩,
⟨some 11,some (9,true),.load (.tmp 10) 1 false⟩,
⟨some 12,some (9,true),.len .i (.tmp 11)⟩,
⟨some 13,some (9,true),.bin .leq .plain (.tmp 12) (.cst (.int .i64 10))⟩,
⟨some 14,none,.pick (.tmp 9) (.tmp 13) (.cst (.bool false))⟩,
⟨some 15,none,.mv (.tmp 14)⟩,
⟨some 16,some (15,true),.fad (.tmp 2) 2⟩,
⟨some 17,some (15,true),.load (.tmp 16) 1 false⟩,
⟨some 18,some (15,true),.len .i (.tmp 17)⟩,
⟨some 19,some (15,true),.bin .leq .plain (.tmp 18) (.cst (.int .i64 100))⟩,
⟨some 20,none,.pick (.tmp 15) (.tmp 19) (.cst (.bool false))⟩,
⟨some 21,none,.mv (.tmp 20)⟩,
⟨some 22,some (21,true),.load (.tmp 2) 3 true⟩,
⟨some 23,some (21,true),.call 22 [(.tmp 22)]⟩,
⟨some 24,none,.pick (.tmp 21) (.tmp 23) (.cst (.bool false))⟩,
⟨some 25,none,.mv (.tmp 24)⟩,
⟨some 26,some (25,true),.load (.tmp 2) 3 true⟩,
⟨some 27,some (25,true),.call 23 [(.tmp 26)]⟩,
⟨some 28,some (25,true),.mv (.tmp 1)⟩,
⟨some 29,some (25,true),.bin .leq .plain (.tmp 27) (.tmp 28)⟩,
⟨some 30,none,.pick (.tmp 25) (.tmp 29) (.cst (.bool false))⟩,
⟨some 4,none,.mv (.tmp 30)⟩])
(.ret))⟩
theorem tr9 : trF Go.Proofs.Tryd.prog { obj := [],bare := [],loops := [],draws := [],glob := globs,fresh := false } Go.Proofs.Tryd.f9 = some ir9 := by kernel_rfl
def ir10 : IFn := ⟨40,[.tmp 0 false],
.seq (.reg [⟨some 0,none,.mv (.cst (.bool false))⟩])
(.seq (.reg [⟨some 5,none,.call 24 []⟩,
⟨some 6,none,.call 13 [(.tmp 5)]⟩,
⟨some 4,none,.mv (.tmp 6)⟩,
⟨some 7,none,.ext (.tmp 4) 0⟩,
⟨some 8,none,.ext (.tmp 4) 1⟩,
⟨some 1,none,.mv (.tmp 7)⟩,
⟨some 2,none,.mv (.tmp 8)⟩])
(.seq (.reg [⟨some 9,none,.call 25 [(.cst (.str ⟨#[120]⟩))]⟩,
⟨some 10,none,.bsl 1 5 true [(.int .i64 0),(.int .i64 0),(.int .u64 0),(.str ⟨#[]⟩),(.vec [] .any)] [(0,5,(.tmp 9))]⟩,
⟨some 11,none,.bld [(.int .i64 0),(.str ⟨#[]⟩),(.vec [] .any),(.vec [] .any),(.vec [] .any)] [(0,1,(.cst (.int .i64 5))),(2,1,(.tmp 10))]⟩,
⟨some 12,none,.bsl 1 5 true [(.int .i64 0),(.str ⟨#[]⟩),(.vec [] .any),(.vec [] .any),(.vec [] .any)] [(0,5,(.tmp 11))]⟩,
⟨some 13,none,.bld [(.vec [] .any),(.vec [] .any),(.vec [] .any)] [(2,1,(.tmp 12))]⟩,
⟨some 14,none,.call 11 [(.tmp 13)]⟩,
⟨some 3,none,.mv (.tmp 14)⟩])
(.seq (.reg [⟨some 15,none,.mv (.tmp 2)⟩,
⟨some 16,none,.bin .eql .plain (.tmp 15) (.cst (.int .i64 0))⟩,
⟨some 17,none,.mv (.tmp 16)⟩,
⟨some 18,some (17,true),.mv (.tmp 1)⟩,
⟨some 19,some (17,true),.bin .eql .plain (.tmp 18) (.cst (.int .i64 10))⟩,
⟨some 20,none,.pick (.tmp 17) (.tmp 19) (.cst (.bool false))⟩,
⟨some 21,none,.mv (.tmp 20)⟩,
⟨some 22,some (21,true),.mv (.tmp 3)⟩,
⟨some 23,some (21,true),.bin .eql .plain (.tmp 22) (.cst (.int .i64 4))⟩,
⟨some 24,none,.pick (.tmp 21) (.tmp 23) (.cst (.bool false))⟩,
⟨some 25,none,.mv (.tmp 24)⟩,
⟨some 26,some (25,true),.call 24 []⟩,
⟨some 27,some (25,true),.call 11 [(.tmp 26)]⟩,
⟨some 28,some (25,true),.bin .eql .plain (.tmp 27) (.cst (.int .i64 0))⟩,
⟨some 29,none,.pick (.tmp 25) (.tmp 28) (.cst (.bool false))⟩,
⟨some 30,none,.mv (.tmp 29)⟩,
⟨some 31,some (30,true),.call 24 []⟩,
⟨some 32,some (30,true),.call 16 [(.tmp 31),(.cst (.int .u64 8191))]⟩,
⟨some 33,some (30,true),.bin .eql .plain (.tmp 32) (.cst (.int .i64 0))⟩,
⟨some 34,none,.pick (.tmp 30) (.tmp 33) (.cst (.bool false))⟩,
⟨some 35,none,.mv (.tmp 34)⟩,
⟨some 36,some (35,true),.call 24 []⟩,
⟨some 37,some (35,true),.call 16 [(.tmp 36),(.cst (.int .u64 127))]⟩,
⟨some 38,some (35,true),.bin .eql .plain (.tmp 37) (.cst (.int .i64 11))⟩,
⟨some 39,none,.pick (.tmp 35) (.tmp 38) (.cst (.bool false))⟩,
⟨some 0,none,.mv (.tmp 39)⟩])
(.ret))))⟩
theorem tr10 : trF Go.Proofs.Tryd.prog { obj := [],bare := [],loops := [],draws := [],glob := globs,fresh := false } Go.Proofs.Tryd.f10 = some ir10 := by kernel_rfl
def ir11 : IFn := ⟨11,[.tmp 2 false],
.seq (.reg [⟨some 1,none,.box (.tmp 0) false⟩,
⟨some 2,none,.mv (.cst (.int .i64 0))⟩])
(.seq (.reg [⟨some 6,none,.load (.tmp 1) 3 true⟩,
⟨some 7,none,.call 26 [(.tmp 6)]⟩,
⟨some 5,none,.mv (.tmp 7)⟩,
⟨some 8,none,.ext (.tmp 5) 0⟩,
⟨some 9,none,.ext (.tmp 5) 1⟩,
⟨some 3,none,.mv (.tmp 8)⟩,
⟨some 4,none,.mv (.tmp 9)⟩])
(.seq (.reg [⟨some 10,none,.mv (.tmp 4)⟩,
⟨some 2,none,.mv (.tmp 10)⟩])
(.ret)))⟩
theorem tr11 : trF Go.Proofs.Tryd.prog { obj := [],bare := [],loops := [],draws := [],glob := globs,fresh := false } Go.Proofs.Tryd.f11 = some ir11 := by kernel_rfl
def ir12 : IFn := ⟨11,[.tmp 2 false],
.seq (.reg [⟨some 1,none,.box (.tmp 0) false⟩,
⟨some 2,none,.mv (.cst (.int .i64 0))⟩])
(.seq (.reg [⟨some 6,none,.load (.tmp 1) 3 true⟩,
⟨some 7,none,.call 27 [(.tmp 6)]⟩,
⟨some 5,none,.mv (.tmp 7)⟩,
⟨some 8,none,.ext (.tmp 5) 0⟩,
⟨some 9,none,.ext (.tmp 5) 1⟩,
⟨some 3,none,.mv (.tmp 8)⟩,
⟨some 4,none,.mv (.tmp 9)⟩])
(.seq (.reg [⟨some 10,none,.mv (.tmp 4)⟩,
⟨some 2,none,.mv (.tmp 10)⟩])
(.ret)))⟩
theorem tr12 : trF Go.Proofs.Tryd.prog { obj := [],bare := [],loops := [],draws := [],glob := globs,fresh := false } Go.Proofs.Tryd.f12 = some ir12 := by kernel_rfl
def ir13 : IFn := ⟨8,[.tmp 2 false,.tmp 3 false],
.seq (.reg [⟨some 1,none,.box (.tmp 0) false⟩,
⟨some 2,none,.mv (.cst (.int .i64 0))⟩,
⟨some 3,none,.mv (.cst (.int .i64 0))⟩])
(.seq (.reg [⟨some 4,none,.load (.tmp 1) 3 true⟩,
⟨some 5,none,.call 26 [(.tmp 4)]⟩,
⟨some 6,none,.ext (.tmp 5) 0⟩,
⟨some 7,none,.ext (.tmp 5) 1⟩,
⟨some 2,none,.mv (.tmp 6)⟩,
⟨some 3,none,.mv (.tmp 7)⟩])
(.ret))⟩
theorem tr13 : trF Go.Proofs.Tryd.prog { obj := [],bare := [],loops := [],draws := [],glob := globs,fresh := false } Go.Proofs.Tryd.f13 = some ir13 := by kernel_rfl
def ir14 : IFn := ⟨18,[.tmp 2 false,.tmp 3 false],
.seq (.reg [⟨some 1,none,.box (.tmp 0) false⟩,
⟨some 2,none,.mv (.cst (.int .i64 0))⟩,
⟨some 3,none,.mv (.cst (.int .i64 0))⟩])
(.seq (.reg [⟨some 7,none,.load (.tmp 1) 3 true⟩,
⟨some 8,none,.call 27 [(.tmp 7)]⟩,
⟨some 6,none,.mv (.tmp 8)⟩,
⟨some 9,none,.ext (.tmp 6) 0⟩,
⟨some 10,none,.ext (.tmp 6) 1⟩,
⟨some 4,none,.mv (.tmp 9)⟩,
⟨some 5,none,.mv (.tmp 10)⟩])
(.seq (.seq (.reg [⟨some 11,none,.mv (.tmp 5)⟩,
⟨some 12,none,.bin .neq .plain (.tmp 11) (.cst (.int .i64 0))⟩])
(.cond (.tmp 12)
(.seq (.reg [⟨some 13,none,.mv (.tmp 5)⟩,
⟨some 2,none,.mv (.cst (.int .i64 0))⟩,
⟨some 3,none,.mv (.tmp 13)⟩])
(.ret))
(.skip)))
(.seq (.reg [⟨some 14,none,.mv (.tmp 4)⟩,
⟨some 15,none,.nilc (.tmp 14)⟩,
⟨some 16,none,.fad (.tmp 15) 7⟩,
⟨some 17,none,.load (.tmp 16) 1 false⟩,
⟨some 2,none,.mv (.tmp 17)⟩,
⟨some 3,none,.mv (.cst (.int .i64 0))⟩])
(.ret))))⟩
theorem tr14 : trF Go.Proofs.Tryd.prog { obj := [],bare := [],loops := [],draws := [],glob := globs,fresh := false } Go.Proofs.Tryd.f14 = some ir14 := by kernel_rfl
def ir15 : IFn := ⟨17,[.tmp 2 false],
.seq (.reg [⟨some 2,none,.mv (.cst (.int .u64 0))⟩])
(.seq (.reg [⟨some 4,none,.call 28 []⟩,
⟨some 3,none,.mv (.tmp 4)⟩])
(.seq (.reg [⟨some 5,none,.mv (.tmp 3)⟩,
⟨some 6,none,.mv (.tmp 0)⟩,
⟨some 7,none,.mv (.tmp 3)⟩,
⟨some 8,none,.len .i (.tmp 7)⟩,
⟨some 9,none,.cvI .u64 (.tmp 8)⟩,
⟨some 10,none,.bin .rem .plain (.tmp 6) (.tmp 9)⟩,
⟨some 11,none,.cvI .i64 (.tmp 10)⟩,
⟨some 12,none,.idxS (.tmp 5) (.tmp 11) 1⟩,
⟨some 13,none,.load (.tmp 12) 1 false⟩,
⟨some 14,none,.cvI .u64 (.tmp 13)⟩,
⟨some 15,none,.bin .shl .plain (.cst (.int .u64 1)) (.tmp 14)⟩,
⟨some 16,none,.bin .sub .plain (.tmp 15) (.cst (.int .u64 1))⟩,
⟨some 2,none,.mv (.tmp 16)⟩])
(.ret)))⟩
theorem tr15 : trF Go.Proofs.Tryd.prog { obj := [],bare := [],loops := [],draws := [],glob := globs,fresh := false } Go.Proofs.Tryd.f15 = some ir15 := by kernel_rfl
def ir16 : IFn := ⟨20,[.tmp 4 false],
.seq (.reg [⟨some 2,none,.box (.tmp 0) false⟩,
⟨some 4,none,.mv (.cst (.int .i64 0))⟩])
(.seq (.reg [⟨some 8,none,.load (.tmp 2) 3 true⟩,
⟨some 9,none,.call 26 [(.tmp 8)]⟩,
⟨some 7,none,.mv (.tmp 9)⟩,
⟨some 10,none,.ext (.tmp 7) 0⟩,
⟨some 11,none,.ext (.tmp 7) 1⟩,
⟨some 5,none,.mv (.tmp 10)⟩,
⟨some 6,none,.mv (.tmp 11)⟩])
(.seq (.seq (.reg [⟨some 12,none,.mv (.tmp 6)⟩,
⟨some 13,none,.bin .neq .plain (.tmp 12) (.cst (.int .i64 0))⟩])
(.cond (.tmp 13)
(.seq (.reg [⟨some 14,none,.mv (.tmp 6)⟩,
⟨some 4,none,.mv (.tmp 14)⟩])
(.ret))
(.skip)))
(.seq (.seq (.reg [⟨some 15,none,.mv (.tmp 5)⟩,
⟨some 16,none,.mv (.tmp 1)⟩,
⟨some 17,none,.call 29 [(.tmp 16)]⟩,
⟨some 18,none,.bin .sub .plain (.tmp 17) (.cst (.int .i64 1))⟩,
⟨some 19,none,.bin .gtr .plain (.tmp 15) (.tmp 18)⟩])
(.cond (.tmp 19)
(.seq (.reg [⟨some 4,none,.mv (.cst (.int .i64 11))⟩])
(.ret))
(.skip)))
(.seq (.reg [⟨some 4,none,.mv (.cst (.int .i64 0))⟩])
(.ret)))))⟩
theorem tr16 : trF Go.Proofs.Tryd.prog { obj := [],bare := [],loops := [],draws := [],glob := globs,fresh := false } Go.Proofs.Tryd.f16 = some ir16 := by kernel_rfl
def ir17 : IFn := ⟨20,[.tmp 4 false],
.seq (.reg [⟨some 2,none,.box (.tmp 0) false⟩,
⟨some 4,none,.mv (.cst (.int .i64 0))⟩])
(.seq (.reg [⟨some 8,none,.load (.tmp 2) 3 true⟩,
⟨some 9,none,.call 14 [(.tmp 8)]⟩,
⟨some 7,none,.mv (.tmp 9)⟩,
⟨some 10,none,.ext (.tmp 7) 0⟩,
⟨some 11,none,.ext (.tmp 7) 1⟩,
⟨some 5,none,.mv (.tmp 10)⟩,
⟨some 6,none,.mv (.tmp 11)⟩])
(.seq (.seq (.reg [⟨some 12,none,.mv (.tmp 6)⟩,
⟨some 13,none,.bin .neq .plain (.tmp 12) (.cst (.int .i64 0))⟩])
(.cond (.tmp 13)
(.seq (.reg [⟨some 14,none,.mv (.tmp 6)⟩,
⟨some 4,none,.mv (.tmp 14)⟩])
(.ret))
(.skip)))
(.seq (.seq (.reg [⟨some 15,none,.mv (.tmp 5)⟩,
⟨some 16,none,.mv (.tmp 1)⟩,
⟨some 17,none,.call 18 [(.tmp 16)]⟩,
⟨some 18,none,.bin .sub .plain (.tmp 17) (.cst (.int .i64 1))⟩,
⟨some 19,none,.bin .gtr .plain (.tmp 15) (.tmp 18)⟩])
(.cond (.tmp 19)
(.seq (.reg [⟨some 4,none,.mv (.cst (.int .i64 11))⟩])
(.ret))
(.skip)))
(.seq (.reg [⟨some 4,none,.mv (.cst (.int .i64 0))⟩])
(.ret)))))⟩
theorem tr17 : trF Go.Proofs.Tryd.prog { obj := [],bare := [],loops := [],draws := [],glob := globs,fresh := false } Go.Proofs.Tryd.f17 = some ir17 := by kernel_rfl
def ir18 : IFn := ⟨25,[.tmp 2 false],
.seq (.reg [⟨some 2,none,.mv (.cst (.int .i64 0))⟩])
(.seq (.reg [⟨some 5,none,.call 28 []⟩,
⟨some 3,none,.mv (.tmp 5)⟩])
(.seq (.seq (.reg [⟨some 4,none,.mv (.cst (.int .i64 0))⟩])
(.block 0
(.loop [0,3,4]
(.seq (.seq (.reg [⟨some 6,none,.mv (.tmp 4)⟩,
⟨some 7,none,.mv (.tmp 3)⟩,
⟨some 8,none,.len .i (.tmp 7)⟩,
⟨some 9,none,.bin .lss .plain (.tmp 6) (.tmp 8)⟩])
(.cond (.tmp 9)
(.skip)
(.brk 0)))
(.seq (.block 1
(.seq (.reg [⟨some 12,none,.mv (.tmp 0)⟩,
⟨some 13,none,.mv (.tmp 3)⟩,
⟨some 14,none,.mv (.tmp 4)⟩,
⟨some 15,none,.idxS (.tmp 13) (.tmp 14) 1⟩,
⟨some 16,none,.load (.tmp 15) 1 false⟩,
⟨some 17,none,.cvI .u64 (.tmp 16)⟩,
⟨some 18,none,.bin .shl .plain (.cst (.int .u64 1)) (.tmp 17)⟩,
⟨some 19,none,.bin .sub .plain (.tmp 18) (.cst (.int .u64 1))⟩,
⟨some 20,none,.bin .eql .plain (.tmp 12) (.tmp 19)⟩])
(.cond (.tmp 20)
(.seq (.reg [⟨some 21,none,.mv (.tmp 3)⟩,
⟨some 22,none,.mv (.tmp 4)⟩,
⟨some 23,none,.idxS (.tmp 21) (.tmp 22) 1⟩,
⟨some 24,none,.load (.tmp 23) 1 false⟩,
⟨some 2,none,.mv (.tmp 24)⟩])
(.ret))
(.skip))))
(.reg [⟨some 10,none,.mv (.tmp 4)⟩,
⟨some 11,none,.bin .add .plain (.tmp 10) (.cst (.int .i64 1))⟩,
⟨some 4,none,.mv (.tmp 11)⟩]))))))
(.seq (.reg [⟨some 2,none,.mv (.cst (.int .i64 0))⟩])
(.ret))))⟩
theorem tr18 : trF Go.Proofs.Tryd.prog { obj := [],bare := [],loops := [[0,3,4]],draws := [],glob := globs,fresh := false } Go.Proofs.Tryd.f18 = some ir18 := by kernel_rfl
def ir19 : IFn := ⟨5,[.cell 2 5 true false],
.seq (.reg [⟨some 2,none,.allocz [(.int .i64 0),(.int .i64 0),(.int .u64 0),(.str ⟨#[]⟩),(.vec [] .full)] false⟩])
(.seq (.reg [⟨some 3,none,.mv (.tmp 0)⟩,
⟨some 4,none,.bld [(.int .i64 0),(.int .i64 0),(.int .u64 0),(.str ⟨#[]⟩),(.vec [] .any)] [(0,1,(.cst (.int .i64 1))),(2,1,(.tmp 3))]⟩,
⟨none,none,.store (.tmp 2) (.tmp 4) 5⟩])
(.ret))⟩
theorem tr19 : trF Go.Proofs.Tryd.prog { obj := [],bare := [],loops := [],draws := [],glob := globs,fresh := false } Go.Proofs.Tryd.f19 = some ir19 := by kernel_rfl
def ir20 : IFn := ⟨11,[.tmp 2 false],
.seq (.reg [⟨some 2,none,.mv (.cst (.int .i64 0))⟩])
(.seq (.reg [⟨some 3,none,.mv (.cst (.int .i64 1))⟩])
(.seq (.block 0
(.loop [0,3]
(.seq (.seq (.reg [⟨some 4,none,.mv (.tmp 0)⟩,
⟨some 5,none,.bin .gtr .plain (.tmp 4) (.cst (.int .u64 1))⟩])
(.cond (.tmp 5)
(.skip)
(.brk 0)))
(.block 1
(.seq (.reg [⟨some 6,none,.mv (.tmp 0)⟩,
⟨some 7,none,.bin .quo .plain (.tmp 6) (.cst (.int .u64 2))⟩,
⟨some 0,none,.mv (.tmp 7)⟩])
(.reg [⟨some 8,none,.mv (.tmp 3)⟩,
⟨some 9,none,.bin .add .plain (.tmp 8) (.cst (.int .i64 1))⟩,
⟨some 3,none,.mv (.tmp 9)⟩]))))))
(.seq (.reg [⟨some 10,none,.mv (.tmp 3)⟩,
⟨some 2,none,.mv (.tmp 10)⟩])
(.ret))))⟩
theorem tr20 : trF Go.Proofs.Tryd.prog { obj := [],bare := [],loops := [[0,3]],draws := [],glob := globs,fresh := false } Go.Proofs.Tryd.f20 = some ir20 := by kernel_rfl
def ir21 : IFn := ⟨12,[.cell 6 5 true false],
.seq (.reg [⟨some 4,none,.box (.tmp 1) false⟩,
⟨some 5,none,.box (.tmp 2) false⟩,
⟨some 6,none,.allocz [(.int .i64 0),(.int .i64 0),(.int .u64 0),(.str ⟨#[]⟩),(.vec [] .full)] false⟩])
(.seq (.reg [⟨some 7,none,.mv (.tmp 0)⟩,
⟨some 8,none,.load (.tmp 4) 5 true⟩,
⟨some 9,none,.load (.tmp 5) 5 true⟩,
⟨some 10,none,.bsl 2 5 true [(.int .i64 0),(.int .i64 0),(.int .u64 0),(.str ⟨#[]⟩),(.vec [] .any)] [(0,5,(.tmp 8)),(5,5,(.tmp 9))]⟩,
⟨some 11,none,.bld [(.int .i64 0),(.int .i64 0),(.int .u64 0),(.str ⟨#[]⟩),(.vec [] .any)] [(0,1,(.cst (.int .i64 4))),(1,1,(.tmp 7)),(4,1,(.tmp 10))]⟩,
⟨none,none,.store (.tmp 6) (.tmp 11) 5⟩])
(.ret))⟩
theorem tr21 : trF Go.Proofs.Tryd.prog { obj := [],bare := [],loops := [],draws := [],glob := globs,fresh := false } Go.Proofs.Tryd.f21 = some ir21 := by kernel_rfl
def ir22 : IFn := ⟨88,[.tmp 2 false],
.seq (.reg [⟨some 1,none,.box (.tmp 0) false⟩,
⟨some 2,none,.mv (.cst (.bool false))⟩])
(.seq (.seq (.reg [⟨some 3,none,.mv (.cst (.int .i64 0))⟩])
(.block 0
(.loop [1,3]
(.seq (.seq (.reg [⟨some 7,none,.mv (.tmp 3)⟩,
⟨some 8,none,.fad (.tmp 1) 0⟩,
⟨some 9,none,.load (.tmp 8) 1 false⟩,
⟨some 10,none,.len .i (.tmp 9)⟩,
⟨some 11,none,.bin .lss .plain (.tmp 7) (.tmp 10)⟩])
(.cond (.tmp 11)
(.skip)
(.brk 0)))
(.seq (.block 1
(.seq (.reg [⟨some 14,none,.fad (.tmp 1) 0⟩,
⟨some 15,none,.load (.tmp 14) 1 false⟩,
⟨some 16,none,.mv (.tmp 3)⟩,
⟨some 17,none,.idxS (.tmp 15) (.tmp 16) 4⟩,
⟨some 18,none,.load (.tmp 17) 4 true⟩,
⟨some 4,none,.allocz [(.str ⟨#[]⟩),(.int .i64 0),(.int .i64 0),(.int .i64 0)] false⟩,
⟨none,none,.store (.tmp 4) (.tmp 18) 4⟩])
(.seq (.reg [⟨some 19,none,.fad (.tmp 4) 0⟩,
⟨some 20,none,.load (.tmp 19) 1 false⟩,
⟨some 21,none,.call 30 [(.tmp 20)]⟩,
⟨some 22,none,.un .not (.tmp 21)⟩,
⟨some 23,none,.mv (.tmp 22)⟩,
⟨some 24,some (23,false),.fad (.tmp 4) 1⟩,
⟨some 25,some (23,false),.load (.tmp 24) 1 false⟩,
⟨some 26,some (23,false),.bin .lss .plain (.tmp 25) (.cst (.int .i64 1))⟩,
⟨some 27,none,.pick (.tmp 23) (.cst (.bool true)) (.tmp 26)⟩,
⟨some 28,none,.mv (.tmp 27)⟩,
⟨some 29,some (28,false),.fad (.tmp 4) 1⟩,
⟨some 30,some (28,false),.load (.tmp 29) 1 false⟩,
⟨some 31,some (28,false),.bin .gtr .plain (.tmp 30) (.cst (.int .i64 13))⟩,
⟨some 32,none,.pick (.tmp 28) (.cst (.bool true)) (.tmp 31)⟩,
⟨some 33,none,.mv (.tmp 32)⟩,
⟨some 34,some (33,false),.fad (.tmp 4) 2⟩,
⟨some 35,some (33,false),.load (.tmp 34) 1 false⟩,
⟨some 36,some (33,false),.bin .lss .plain (.tmp 35) (.cst (.int .i64 1))⟩,
⟨some 37,none,.pick (.tmp 33) (.cst (.bool true)) (.tmp 36)⟩,
⟨some 38,none,.mv (.tmp 37)⟩,
⟨some 39,some (38,false),.fad (.tmp 4) 2⟩,
⟨some 40,some (38,false),.load (.tmp 39) 1 false⟩,
⟨some 41,some (38,false),.bin .gtr .plain (.tmp 40) (.cst (.int .i64 16))⟩,
⟨some 42,none,.pick (.tmp 38) (.cst (.bool true)) (.tmp 41)⟩,
⟨some 43,none,.mv (.tmp 42)⟩,
⟨some 44,some (43,false),.fad (.tmp 4) 3⟩,
⟨some 45,some (43,false),.load (.tmp 44) 1 false⟩,
⟨some 46,some (43,false),.bin .lss .plain (.tmp 45) (.cst (.int .i64 0))⟩,
⟨some 47,none,.pick (.tmp 43) (.cst (.bool true)) (.tmp 46)⟩,
⟨some 48,none,.mv (.tmp 47)⟩,
⟨some 49,some (48,false),.fad (.tmp 4) 3⟩,
⟨some 50,some (48,false),.load (.tmp 49) 1 false⟩,
⟨some 51,some (48,false),.bin .gtr .plain (.tmp 50) (.cst (.int .i64 64))⟩,
⟨some 52,none,.pick (.tmp 48) (.cst (.bool true)) (.tmp 51)⟩])
(.cond (.tmp 52)
(.seq (.reg [⟨some 2,none,.mv (.cst (.bool false))⟩])
(.ret))
(.skip)))))
(.reg [⟨some 12,none,.mv (.tmp 3)⟩,
⟨some 13,none,.bin .add .plain (.tmp 12) (.cst (.int .i64 1))⟩,
⟨some 3,none,.mv (.tmp 13)⟩]))))))
(.seq (.seq (.reg [⟨some 5,none,.mv (.cst (.int .i64 0))⟩])
(.block 2
(.loop [1,5]
(.seq (.seq (.reg [⟨some 53,none,.mv (.tmp 5)⟩,
⟨some 54,none,.fad (.tmp 1) 1⟩,
⟨some 55,none,.load (.tmp 54) 1 false⟩,
⟨some 56,none,.len .i (.tmp 55)⟩,
⟨some 57,none,.bin .lss .plain (.tmp 53) (.tmp 56)⟩])
(.cond (.tmp 57)
(.skip)
(.brk 2)))
(.seq (.block 3
(.seq (.reg [⟨some 60,none,.fad (.tmp 1) 1⟩,
⟨some 61,none,.load (.tmp 60) 1 false⟩,
⟨some 62,none,.mv (.tmp 5)⟩,
⟨some 63,none,.idxS (.tmp 61) (.tmp 62) 2⟩,
⟨some 64,none,.load (.tmp 63) 2 true⟩,
⟨some 6,none,.allocz [(.str ⟨#[]⟩),(.int .i64 0)] false⟩,
⟨none,none,.store (.tmp 6) (.tmp 64) 2⟩])
(.seq (.reg [⟨some 65,none,.fad (.tmp 6) 0⟩,
⟨some 66,none,.load (.tmp 65) 1 false⟩,
⟨some 67,none,.call 30 [(.tmp 66)]⟩,
⟨some 68,none,.un .not (.tmp 67)⟩,
⟨some 69,none,.mv (.tmp 68)⟩,
⟨some 70,some (69,false),.fad (.tmp 6) 1⟩,
⟨some 71,some (69,false),.load (.tmp 70) 1 false⟩,
⟨some 72,some (69,false),.bin .lss .plain (.tmp 71) (.cst (.int .i64 1))⟩,
⟨some 73,none,.pick (.tmp 69) (.cst (.bool true)) (.tmp 72)⟩,
⟨some 74,none,.mv (.tmp 73)⟩,
⟨some 75,some (74,false),.fad (.tmp 6) 1⟩,
⟨some 76,some (74,false),.load (.tmp 75) 1 false⟩,
⟨some 77,some (74,false),.bin .gtr .plain (.tmp 76) (.cst (.int .i64 64))⟩,
⟨some 78,none,.pick (.tmp 74) (.cst (.bool true)) (.tmp 77)⟩])
(.cond (.tmp 78)
(.seq (.reg [⟨some 2,none,.mv (.cst (.bool false))⟩])
(.ret))
(.skip)))))
(.reg [⟨some 58,none,.mv (.tmp 5)⟩,
⟨some 59,none,.bin .add .plain (.tmp 58) (.cst (.int .i64 1))⟩,
⟨some 5,none,.mv (.tmp 59)⟩]))))))
(.seq (.reg [⟨some 79,none,.fad (.tmp 1) 2⟩,
⟨some 80,none,.load (.tmp 79) 1 false⟩,
⟨some 81,none,.call 31 [(.tmp 80),(.cst (.int .i64 1))]⟩,
⟨some 82,none,.mv (.tmp 81)⟩,
⟨some 83,some (82,true),.load (.tmp 1) 3 true⟩,
⟨some 84,some (82,true),.call 32 [(.tmp 83)]⟩,
⟨some 85,some (82,true),.len .s (.tmp 84)⟩,
⟨some 86,some (82,true),.bin .leq .plain (.tmp 85) (.cst (.int .i64 20000))⟩,
⟨some 87,none,.pick (.tmp 82) (.tmp 86) (.cst (.bool false))⟩,
⟨some 2,none,.mv (.tmp 87)⟩])
(.ret))))⟩
theorem tr22 : trF Go.Proofs.Tryd.prog { obj := [],bare := [],loops := [[1,3],[1,5]],draws := [],glob := globs,fresh := false } Go.Proofs.Tryd.f22 = some ir22 := by kernel_rfl
def ir23 : IFn := ⟨14,[.tmp 2 false],
.seq (.reg [⟨some 1,none,.box (.tmp 0) false⟩,
⟨some 2,none,.mv (.cst (.int .i64 0))⟩])
(.seq (.draw [(⟨some 3,none,.fad (.tmp 1) 0⟩,0,[]),
(⟨some 4,none,.load (.tmp 3) 1 false⟩,1,[]),
(⟨some 5,none,.len .i (.tmp 4)⟩,2,[]),
(⟨some 6,none,.fad (.tmp 1) 1⟩,3,[]),
(⟨some 7,none,.load (.tmp 6) 1 false⟩,4,[]),
(⟨some 8,none,.len .i (.tmp 7)⟩,5,[]),
(⟨some 9,none,.bin .add .plain (.tmp 5) (.tmp 8)⟩,6,[]),
(⟨some 10,none,.fad (.tmp 1) 2⟩,7,[]),
(⟨some 11,none,.load (.tmp 10) 1 false⟩,8,[]),
(⟨some 12,none,.call 33 [(.tmp 11)]⟩,9,[1,2,4,5]),
(⟨some 13,none,.bin .add .plain (.tmp 9) (.tmp 12)⟩,10,[]),
(⟨some 2,none,.mv (.tmp 13)⟩,11,[])])
(.ret))⟩
theorem tr23 : trF Go.Proofs.Tryd.prog { obj := [],bare := [],loops := [],draws := [(1,([0,1,3,0,8,24,63,0,128,384,1023,2047],[(0,[]),(1,[]),(2,[]),(3,[]),(4,[]),(5,[]),(6,[]),(7,[]),(8,[]),(9,[1,2,4,5]),(10,[]),(11,[])]))],glob := globs,fresh := false } Go.Proofs.Tryd.f23 = some ir23 := by kernel_rfl
def ir24 : IFn := ⟨17,[.cell 0 3 true false],
.seq (.reg [⟨some 0,none,.allocz [(.vec [] .full),(.vec [] .full),(.vec [] .full)] false⟩])
(.seq (.reg [⟨some 2,none,.call 25 [(.cst (.str ⟨#[120]⟩))]⟩,
⟨some 1,none,.allocz [(.int .i64 0),(.int .i64 0),(.int .u64 0),(.str ⟨#[]⟩),(.vec [] .full)] false⟩,
⟨none,none,.store (.tmp 1) (.tmp 2) 5⟩])
(.seq (.draw [(⟨some 3,none,.bld [(.str ⟨#[]⟩),(.int .i64 0),(.int .i64 0),(.int .i64 0)] [(0,1,(.cst (.str ⟨#[97]⟩))),(1,1,(.cst (.int .i64 1))),(2,1,(.cst (.int .i64 4)))]⟩,0,[]),
(⟨some 4,none,.bsl 1 4 true [(.str ⟨#[]⟩),(.int .i64 0),(.int .i64 0),(.int .i64 0)] [(0,4,(.tmp 3))]⟩,1,[]),
(⟨some 10,none,.load (.tmp 1) 5 true⟩,7,[]),
(⟨some 11,none,.load (.tmp 1) 5 true⟩,8,[]),
(⟨some 5,none,.call 25 [(.cst (.str ⟨#[97]⟩))]⟩,2,[2,3]),
(⟨some 6,none,.call 19 [(.cst (.int .u64 1))]⟩,3,[2,3]),
(⟨some 7,none,.call 21 [(.cst (.int .i64 1)),(.tmp 5),(.tmp 6)]⟩,4,[2,3]),
(⟨some 8,none,.bsl 1 5 true [(.int .i64 0),(.int .i64 0),(.int .u64 0),(.str ⟨#[]⟩),(.vec [] .any)] [(0,5,(.tmp 7))]⟩,5,[]),
(⟨some 9,none,.bld [(.int .i64 0),(.str ⟨#[]⟩),(.vec [] .any),(.vec [] .any),(.vec [] .any)] [(0,1,(.cst (.int .i64 1))),(1,1,(.cst (.str ⟨#[120]⟩))),(2,1,(.tmp 8))]⟩,6,[]),
(⟨some 12,none,.call 21 [(.cst (.int .i64 3)),(.tmp 10),(.tmp 11)]⟩,9,[]),
(⟨some 13,none,.bsl 1 5 true [(.int .i64 0),(.int .i64 0),(.int .u64 0),(.str ⟨#[]⟩),(.vec [] .any)] [(0,5,(.tmp 12))]⟩,10,[]),
(⟨some 14,none,.bld [(.int .i64 0),(.str ⟨#[]⟩),(.vec [] .any),(.vec [] .any),(.vec [] .any)] [(0,1,(.cst (.int .i64 5))),(2,1,(.tmp 13))]⟩,11,[]),
(⟨some 15,none,.bsl 2 5 true [(.int .i64 0),(.str ⟨#[]⟩),(.vec [] .any),(.vec [] .any),(.vec [] .any)] [(0,5,(.tmp 9)),(5,5,(.tmp 14))]⟩,12,[]),
(⟨some 16,none,.bld [(.vec [] .any),(.vec [] .any),(.vec [] .any)] [(0,1,(.tmp 4)),(2,1,(.tmp 15))]⟩,13,[]),
(⟨none,none,.store (.tmp 0) (.tmp 16) 3⟩,14,[])])
(.ret)))⟩
theorem tr24 : trF Go.Proofs.Tryd.prog { obj := [],bare := [],loops := [],draws := [(2,([0,1,0,4,12,28,60,0,0,412,924,1948,4092,8191,16383],[(0,[]),(1,[]),(7,[]),(8,[]),(2,[2,3]),(3,[2,3]),(4,[2,3]),(5,[]),(6,[]),(9,[]),(10,[]),(11,[]),(12,[]),(13,[]),(14,[])]))],glob := globs,fresh := false } Go.Proofs.Tryd.f24 = some ir24 := by kernel_rfl
def ir25 : IFn := ⟨5,[.cell 2 5 true false],
.seq (.reg [⟨some 2,none,.allocz [(.int .i64 0),(.int .i64 0),(.int .u64 0),(.str ⟨#[]⟩),(.vec [] .full)] false⟩])
(.seq (.reg [⟨some 3,none,.mv (.tmp 0)⟩,
⟨some 4,none,.bld [(.int .i64 0),(.int .i64 0),(.int .u64 0),(.str ⟨#[]⟩),(.vec [] .any)] [(0,1,(.cst (.int .i64 2))),(3,1,(.tmp 3))]⟩,
⟨none,none,.store (.tmp 2) (.tmp 4) 5⟩])
(.ret))⟩
theorem tr25 : trF Go.Proofs.Tryd.prog { obj := [],bare := [],loops := [],draws := [],glob := globs,fresh := false } Go.Proofs.Tryd.f25 = some ir25 := by kernel_rfl
def ir26 : IFn := ⟨96,[.cell 2 1 false false,.cell 3 1 false false],
.seq (.reg [⟨some 1,none,.box (.tmp 0) false⟩,
⟨some 2,none,.allocz [(.int .i64 0)] true⟩,
⟨some 3,none,.allocz [(.int .i64 0)] true⟩])
(.seq (.reg [⟨some 10,none,.mkM⟩,
⟨some 11,none,.mkM⟩,
⟨some 12,none,.mkM⟩,
⟨some 13,none,.mkM⟩,
⟨some 14,none,.mkM⟩,
⟨some 15,none,.bld [.nilmap,.nilmap,.nilmap,.nilmap,.nilmap,(.int .i64 0),(.int .i64 0),(.int .i64 0)] [(0,1,(.tmp 10)),(1,1,(.tmp 11)),(2,1,(.tmp 12)),(3,1,(.tmp 13)),(4,1,(.tmp 14))]⟩,
⟨some 16,none,.box (.tmp 15) true⟩,
⟨some 4,none,.mv (.tmp 16)⟩])
(.seq (.seq (.reg [⟨some 17,none,.fad (.tmp 1) 0⟩,
⟨some 18,none,.load (.tmp 17) 1 false⟩,
⟨some 19,none,.len .i (.tmp 18)⟩,
⟨some 20,none,.mv (.cst (.int .i64 0))⟩])
(.block 0
(.loop [1,2,3,4,18,19,20]
(.seq (.reg [⟨some 21,none,.bin .lss .plain (.tmp 20) (.tmp 19)⟩])
(.seq (.cond (.tmp 21)
(.skip)
(.brk 0))
(.seq (.block 1
(.seq (.reg [⟨some 22,none,.idxS (.tmp 18) (.tmp 20) 4⟩,
⟨some 23,none,.load (.tmp 22) 4 true⟩,
⟨some 6,none,.allocz [(.str ⟨#[]⟩),(.int .i64 0),(.int .i64 0),(.int .i64 0)] false⟩,
⟨none,none,.store (.tmp 6) (.tmp 23) 4⟩])
(.seq (.seq (.reg [⟨some 24,none,.mv (.tmp 4)⟩,
⟨some 25,none,.fad (.tmp 6) 0⟩,
⟨some 26,none,.load (.tmp 25) 1 false⟩,
⟨some 27,none,.call 35 [(.tmp 24),(.tmp 26)]⟩])
(.cond (.tmp 27)
(.reg [⟨some 28,none,.call 36 [(.cst (.int .i64 4))]⟩])
(.skip)))
(.seq (.draw [(⟨some 29,none,.mv (.tmp 4)⟩,0,[]),
(⟨some 30,none,.nilc (.tmp 29)⟩,1,[]),
(⟨some 31,none,.fad (.tmp 30) 0⟩,2,[]),
(⟨some 32,none,.load (.tmp 31) 1 false⟩,3,[]),
(⟨some 33,none,.fad (.tmp 6) 0⟩,4,[]),
(⟨some 34,none,.load (.tmp 33) 1 false⟩,5,[]),
(⟨some 35,none,.load (.tmp 6) 4 true⟩,6,[]),
(⟨none,none,.mup .s (.tmp 32) (.tmp 34) (.tmp 35)⟩,7,[])])
(.draw [(⟨some 36,none,.mv (.tmp 4)⟩,0,[]),
(⟨some 37,none,.mv (.tmp 4)⟩,1,[]),
(⟨some 38,none,.nilc (.tmp 37)⟩,2,[]),
(⟨some 39,none,.fad (.tmp 38) 6⟩,3,[]),
(⟨some 40,none,.load (.tmp 39) 1 false⟩,4,[]),
(⟨some 41,none,.fad (.tmp 6) 2⟩,5,[]),
(⟨some 42,none,.load (.tmp 41) 1 false⟩,6,[]),
(⟨some 43,none,.max [(.tmp 40),(.tmp 42)]⟩,7,[]),
(⟨some 44,none,.nilc (.tmp 36)⟩,8,[]),
(⟨some 45,none,.fad (.tmp 44) 6⟩,9,[]),
(⟨none,none,.store (.tmp 45) (.tmp 43) 1⟩,10,[])])))))
(.reg [⟨some 46,none,.bin .add .plain (.tmp 20) (.cst (.int .i64 1))⟩,
⟨some 20,none,.mv (.tmp 46)⟩])))))))
(.seq (.seq (.reg [⟨some 47,none,.fad (.tmp 1) 1⟩,
⟨some 48,none,.load (.tmp 47) 1 false⟩,
⟨some 49,none,.len .i (.tmp 48)⟩,
⟨some 50,none,.mv (.cst (.int .i64 0))⟩])
(.block 2
(.loop [1,2,3,4,48,49,50]
(.seq (.reg [⟨some 51,none,.bin .lss .plain (.tmp 50) (.tmp 49)⟩])
(.seq (.cond (.tmp 51)
(.skip)
(.brk 2))
(.seq (.block 3
(.seq (.reg [⟨some 52,none,.idxS (.tmp 48) (.tmp 50) 2⟩,
⟨some 53,none,.load (.tmp 52) 2 true⟩,
⟨some 8,none,.allocz [(.str ⟨#[]⟩),(.int .i64 0)] false⟩,
⟨none,none,.store (.tmp 8) (.tmp 53) 2⟩])
(.seq (.seq (.reg [⟨some 54,none,.mv (.tmp 4)⟩,
⟨some 55,none,.fad (.tmp 8) 0⟩,
⟨some 56,none,.load (.tmp 55) 1 false⟩,
⟨some 57,none,.call 35 [(.tmp 54),(.tmp 56)]⟩])
(.cond (.tmp 57)
(.reg [⟨some 58,none,.call 36 [(.cst (.int .i64 4))]⟩])
(.skip)))
(.seq (.draw [(⟨some 59,none,.mv (.tmp 4)⟩,0,[]),
(⟨some 60,none,.nilc (.tmp 59)⟩,1,[]),
(⟨some 61,none,.fad (.tmp 60) 1⟩,2,[]),
(⟨some 62,none,.load (.tmp 61) 1 false⟩,3,[]),
(⟨some 63,none,.fad (.tmp 8) 0⟩,4,[]),
(⟨some 64,none,.load (.tmp 63) 1 false⟩,5,[]),
(⟨some 65,none,.fad (.tmp 8) 1⟩,6,[]),
(⟨some 66,none,.load (.tmp 65) 1 false⟩,7,[]),
(⟨none,none,.mup .s (.tmp 62) (.tmp 64) (.tmp 66)⟩,8,[])])
(.seq (.reg [⟨some 67,none,.fad (.tmp 8) 1⟩,
⟨some 68,none,.load (.tmp 67) 1 false⟩,
⟨some 69,none,.mv (.cst (.int .i64 0))⟩])
(.block 4
(.loop [1,2,3,4,8,48,49,50,68,69]
(.seq (.reg [⟨some 70,none,.bin .lss .plain (.tmp 69) (.tmp 68)⟩])
(.seq (.cond (.tmp 70)
(.skip)
(.brk 4))
(.seq (.block 5
(.draw [(⟨some 71,none,.mv (.tmp 4)⟩,0,[]),
(⟨some 72,none,.nilc (.tmp 71)⟩,1,[]),
(⟨some 73,none,.fad (.tmp 72) 3⟩,2,[]),
(⟨some 74,none,.load (.tmp 73) 1 false⟩,3,[]),
(⟨some 75,none,.fad (.tmp 8) 0⟩,4,[]),
(⟨some 76,none,.load (.tmp 75) 1 false⟩,5,[]),
(⟨some 77,none,.mv (.tmp 4)⟩,6,[]),
(⟨some 78,none,.nilc (.tmp 77)⟩,7,[]),
(⟨some 79,none,.fad (.tmp 78) 3⟩,8,[]),
(⟨some 80,none,.load (.tmp 79) 1 false⟩,9,[]),
(⟨some 81,none,.fad (.tmp 8) 0⟩,10,[]),
(⟨some 82,none,.load (.tmp 81) 1 false⟩,11,[]),
(⟨some 83,none,.lkp .s (.tmp 80) (.tmp 82) (.vec [] .full) false⟩,12,[]),
(⟨some 84,none,.bsl 1 1 false [(.int .i64 0)] [(0,1,(.cst (.int .i64 1)))]⟩,13,[]),
(⟨some 85,none,.app (.tmp 83) (.tmp 84) 1 8 false true⟩,14,[3,5]),
(⟨none,none,.mup .s (.tmp 74) (.tmp 76) (.tmp 85)⟩,15,[])]))
(.reg [⟨some 86,none,.bin .add .plain (.tmp 69) (.cst (.int .i64 1))⟩,
⟨some 69,none,.mv (.tmp 86)⟩])))))))))))
(.reg [⟨some 87,none,.bin .add .plain (.tmp 50) (.cst (.int .i64 1))⟩,
⟨some 50,none,.mv (.tmp 87)⟩])))))))
(.seq (.reg [⟨some 88,none,.mv (.tmp 4)⟩,
⟨some 89,none,.fad (.tmp 1) 2⟩,
⟨some 90,none,.load (.tmp 89) 1 false⟩,
⟨some 91,none,.call 37 [(.tmp 88),(.tmp 90)]⟩])
(.seq (.reg [⟨some 92,none,.mv (.tmp 4)⟩,
⟨some 93,none,.nilc (.tmp 92)⟩,
⟨some 94,none,.fad (.tmp 93) 6⟩,
⟨some 95,none,.load (.tmp 94) 1 false⟩,
⟨none,none,.store (.tmp 2) (.tmp 95) 1⟩,
⟨none,none,.store (.tmp 3) (.cst (.int .i64 0)) 1⟩])
(.ret))))))⟩
def hs26 : Hints := { obj := [2,3,16,85,15],bare := [],loops := [[1,2,3,4,18,19,20],[1,2,3,4,48,49,50],[1,2,3,4,8,48,49,50,68,69]],draws := [(8,([0,1,3,7,0,16,0,127],[(0,[]),(1,[]),(2,[]),(3,[]),(4,[]),(5,[]),(6,[]),(7,[])])),(9,([0,0,2,6,14,0,32,126,255,511,1023],[(0,[]),(1,[]),(2,[]),(3,[]),(4,[]),(5,[]),(6,[]),(7,[]),(8,[]),(9,[]),(10,[])])),(16,([0,1,3,7,0,16,0,64,255],[(0,[]),(1,[]),(2,[]),(3,[]),(4,[]),(5,[]),(6,[]),(7,[]),(8,[])])),(19,([0,1,3,7,0,16,0,64,192,448,0,1024,4032,0,16320,32767],[(0,[]),(1,[]),(2,[]),(3,[]),(4,[]),(5,[]),(6,[]),(7,[]),(8,[]),(9,[]),(10,[]),(11,[]),(12,[]),(13,[]),(14,[3,5]),(15,[])]))],glob := globs,fresh := false }
theorem tr26 : trD Go.Proofs.Tryd.prog (hs26) 4 Go.Proofs.Tryd.f26 = some ir26 := by kernel_rfl
def ir27 : IFn := ⟨72,[.tmp 2 false,.tmp 3 false],
.seq (.reg [⟨some 1,none,.box (.tmp 0) false⟩,
⟨some 2,none,.mv (.cst .nilptr)⟩,
⟨some 3,none,.mv (.cst (.int .i64 0))⟩])
(.seq (.reg [⟨some 9,none,.load (.tmp 1) 3 true⟩,
⟨some 10,none,.bld [(.vec [] .full),(.vec [] .full),(.vec [] .full),(.vec [] .full),(.vec [] .full),(.vec [] .full),(.int .i64 0),(.int .i64 0),(.int .i64 0)] [(0,3,(.tmp 9))]⟩,
⟨some 11,none,.box (.tmp 10) true⟩,
⟨some 4,none,.mv (.tmp 11)⟩])
(.seq (.seq (.reg [⟨some 12,none,.load (.tmp 1) 3 true⟩,
⟨some 13,none,.call 38 [(.tmp 12)]⟩,
⟨some 14,none,.un .not (.tmp 13)⟩])
(.cond (.tmp 14)
(.seq (.reg [⟨some 15,none,.mv (.tmp 4)⟩,
⟨some 2,none,.mv (.tmp 15)⟩,
⟨some 3,none,.mv (.cst (.int .i64 4))⟩])
(.ret))
(.skip)))
(.seq (.seq (.reg [⟨some 5,none,.mv (.cst (.int .i64 0))⟩])
(.block 0
(.loop [1,4,5]
(.seq (.seq (.reg [⟨some 16,none,.mv (.tmp 5)⟩,
⟨some 17,none,.fad (.tmp 1) 0⟩,
⟨some 18,none,.load (.tmp 17) 1 false⟩,
⟨some 19,none,.len .i (.tmp 18)⟩,
⟨some 20,none,.bin .lss .plain (.tmp 16) (.tmp 19)⟩])
(.cond (.tmp 20)
(.skip)
(.brk 0)))
(.seq (.block 1
(.draw [(⟨some 23,none,.mv (.tmp 4)⟩,0,[]),
(⟨some 24,none,.mv (.tmp 4)⟩,1,[]),
(⟨some 25,none,.nilc (.tmp 24)⟩,2,[]),
(⟨some 26,none,.fad (.tmp 25) 7⟩,3,[]),
(⟨some 27,none,.load (.tmp 26) 1 false⟩,4,[]),
(⟨some 28,none,.fad (.tmp 1) 0⟩,5,[]),
(⟨some 29,none,.load (.tmp 28) 1 false⟩,6,[]),
(⟨some 30,none,.mv (.tmp 5)⟩,7,[]),
(⟨some 31,none,.idxS (.tmp 29) (.tmp 30) 4⟩,8,[]),
(⟨some 32,none,.fad (.tmp 31) 2⟩,9,[]),
(⟨some 33,none,.load (.tmp 32) 1 false⟩,10,[]),
(⟨some 34,none,.max [(.tmp 27),(.tmp 33)]⟩,11,[]),
(⟨some 35,none,.nilc (.tmp 23)⟩,12,[]),
(⟨some 36,none,.fad (.tmp 35) 7⟩,13,[]),
(⟨none,none,.store (.tmp 36) (.tmp 34) 1⟩,14,[])]))
(.reg [⟨some 21,none,.mv (.tmp 5)⟩,
⟨some 22,none,.bin .add .plain (.tmp 21) (.cst (.int .i64 1))⟩,
⟨some 5,none,.mv (.tmp 22)⟩]))))))
(.seq (.seq (.reg [⟨some 6,none,.mv (.cst (.int .i64 0))⟩])
(.block 2
(.loop [1,4,6]
(.seq (.seq (.reg [⟨some 37,none,.mv (.tmp 6)⟩,
⟨some 38,none,.fad (.tmp 1) 1⟩,
⟨some 39,none,.load (.tmp 38) 1 false⟩,
⟨some 40,none,.len .i (.tmp 39)⟩,
⟨some 41,none,.bin .lss .plain (.tmp 37) (.tmp 40)⟩])
(.cond (.tmp 41)
(.skip)
(.brk 2)))
(.seq (.block 3
(.seq (.reg [⟨some 7,none,.mv (.cst (.vec [] .full))⟩])
(.seq (.seq (.reg [⟨some 8,none,.mv (.cst (.int .i64 0))⟩])
(.block 4
(.loop [1,4,6,7,8]
(.seq (.seq (.reg [⟨some 44,none,.mv (.tmp 8)⟩,
⟨some 45,none,.fad (.tmp 1) 1⟩,
⟨some 46,none,.load (.tmp 45) 1 false⟩,
⟨some 47,none,.mv (.tmp 6)⟩,
⟨some 48,none,.idxS (.tmp 46) (.tmp 47) 2⟩,
⟨some 49,none,.fad (.tmp 48) 1⟩,
⟨some 50,none,.load (.tmp 49) 1 false⟩,
⟨some 51,none,.bin .lss .plain (.tmp 44) (.tmp 50)⟩])
(.cond (.tmp 51)
(.skip)
(.brk 4)))
(.seq (.block 5
(.reg [⟨some 54,none,.mv (.tmp 7)⟩,
⟨some 55,none,.bsl 1 1 false [(.int .i64 0)] [(0,1,(.cst (.int .i64 1)))]⟩,
⟨some 56,none,.app (.tmp 54) (.tmp 55) 1 8 false true⟩,
⟨some 7,none,.mv (.tmp 56)⟩]))
(.reg [⟨some 52,none,.mv (.tmp 8)⟩,
⟨some 53,none,.bin .add .plain (.tmp 52) (.cst (.int .i64 1))⟩,
⟨some 8,none,.mv (.tmp 53)⟩]))))))
(.reg [⟨some 57,none,.mv (.tmp 4)⟩,
⟨some 58,none,.mv (.tmp 4)⟩,
⟨some 59,none,.nilc (.tmp 58)⟩,
⟨some 60,none,.fad (.tmp 59) 5⟩,
⟨some 61,none,.load (.tmp 60) 1 false⟩,
⟨some 62,none,.mv (.tmp 7)⟩,
⟨some 63,none,.bsl 1 1 false [(.vec [] .any)] [(0,1,(.tmp 62))]⟩,
⟨some 64,none,.app (.tmp 61) (.tmp 63) 1 24 false true⟩,
⟨some 65,none,.nilc (.tmp 57)⟩,
⟨some 66,none,.fad (.tmp 65) 5⟩,
⟨none,none,.store (.tmp 66) (.tmp 64) 1⟩]))))
(.reg [⟨some 42,none,.mv (.tmp 6)⟩,
⟨some 43,none,.bin .add .plain (.tmp 42) (.cst (.int .i64 1))⟩,
⟨some 6,none,.mv (.tmp 43)⟩]))))))
(.seq (.reg [⟨some 67,none,.mv (.tmp 4)⟩,
⟨some 68,none,.mv (.tmp 4)⟩,
⟨some 69,none,.fad (.tmp 1) 2⟩,
⟨some 70,none,.load (.tmp 69) 1 false⟩,
⟨some 71,none,.call 39 [(.tmp 68),(.tmp 70)]⟩,
⟨some 2,none,.mv (.tmp 67)⟩,
⟨some 3,none,.mv (.tmp 71)⟩])
(.ret))))))⟩
theorem tr27 : trF Go.Proofs.Tryd.prog { obj := [11,64,56,10],bare := [],loops := [[1,4,5],[1,4,6],[1,4,6,7,8]],draws := [(7,([0,0,2,6,14,0,32,0,224,480,992,2046,4095,8191,16383],[(0,[]),(1,[]),(2,[]),(3,[]),(4,[]),(5,[]),(6,[]),(7,[]),(8,[]),(9,[]),(10,[]),(11,[]),(12,[]),(13,[]),(14,[])]))],glob := globs,fresh := false } Go.Proofs.Tryd.f27 = some ir27 := by kernel_rfl
def ir28 : IFn := ⟨2,[.tmp 0 false],
.seq (.reg [⟨some 0,none,.mv (.cst (.vec [] .full))⟩])
(.seq (.reg [⟨some 1,none,.bsl 7 1 false [(.int .i64 0)] [(0,1,(.cst (.int .i64 5))),(1,1,(.cst (.int .i64 7))),(2,1,(.cst (.int .i64 13))),(3,1,(.cst (.int .i64 17))),(4,1,(.cst (.int .i64 19))),(5,1,(.cst (.int .i64 31))),(6,1,(.cst (.int .i64 61)))]⟩,
⟨some 0,none,.mv (.tmp 1)⟩])
(.ret))⟩
theorem tr28 : trF Go.Proofs.Tryd.prog { obj := [],bare := [],loops := [],draws := [],glob := globs,fresh := false } Go.Proofs.Tryd.f28 = some ir28 := by kernel_rfl
def ir29 : IFn := ⟨16,[.tmp 2 false],
.seq (.reg [⟨some 2,none,.mv (.cst (.int .i64 0))⟩])
(.seq (.seq (.reg [⟨some 5,none,.load (.glob 0 [(.int .i64 5),(.int .i64 7),(.int .i64 13),(.int .i64 17),(.int .i64 19),(.int .i64 31),(.int .i64 61)]) 7 true⟩,
⟨some 6,none,.mv (.cst (.int .i64 0))⟩])
(.block 0
(.loop [0,5,6]
(.seq (.reg [⟨some 7,none,.bin .lss .plain (.tmp 6) (.cst (.int .i64 7))⟩])
(.seq (.cond (.tmp 7)
(.skip)
(.brk 0))
(.seq (.block 1
(.seq (.reg [⟨some 8,none,.idxA (.tmp 5) (.tmp 6) 7 1 false⟩,
⟨some 4,none,.mv (.tmp 8)⟩])
(.seq (.reg [⟨some 9,none,.mv (.tmp 0)⟩,
⟨some 10,none,.mv (.tmp 4)⟩,
⟨some 11,none,.bin .shl .plain (.cst (.int .u64 1)) (.tmp 10)⟩,
⟨some 12,none,.bin .sub .plain (.tmp 11) (.cst (.int .u64 1))⟩,
⟨some 13,none,.bin .eql .plain (.tmp 9) (.tmp 12)⟩])
(.cond (.tmp 13)
(.seq (.reg [⟨some 14,none,.mv (.tmp 4)⟩,
⟨some 2,none,.mv (.tmp 14)⟩])
(.ret))
(.skip)))))
(.reg [⟨some 15,none,.bin .add .plain (.tmp 6) (.cst (.int .i64 1))⟩,
⟨some 6,none,.mv (.tmp 15)⟩])))))))
(.seq (.reg [⟨some 2,none,.mv (.cst (.int .i64 0))⟩])
(.ret)))⟩
theorem tr29 : trF Go.Proofs.Tryd.prog { obj := [],bare := [],loops := [[0,5,6]],draws := [],glob := globs,fresh := false } Go.Proofs.Tryd.f29 = some ir29 := by kernel_rfl
def ir30 : IFn := ⟨28,[.tmp 2 false],
.seq (.reg [⟨some 2,none,.mv (.cst (.bool false))⟩])
(.seq (.reg [⟨some 3,none,.mv (.tmp 0)⟩,
⟨some 4,none,.len .s (.tmp 3)⟩,
⟨some 5,none,.bin .geq .plain (.tmp 4) (.cst (.int .i64 1))⟩,
⟨some 6,none,.mv (.tmp 5)⟩,
⟨some 7,some (6,true),.mv (.tmp 0)⟩,
⟨some 8,some (6,true),.len .s (.tmp 7)⟩,
⟨some 9,some (6,true),.bin .leq .plain (.tmp 8) (.cst (.int .i64 20))⟩,
⟨some 10,none,.pick (.tmp 6) (.tmp 9) (.cst (.bool false))⟩,
⟨some 11,none,.mv (.tmp 10)⟩,
⟨some 12,some (11,true),.mv (.tmp 0)⟩,
⟨some 13,some (11,true),.idxStr (.tmp 12) (.cst (.int .i64 0))⟩,
⟨some 14,some (11,true),.call 40 [(.tmp 13)]⟩,
⟨some 15,none,.pick (.tmp 11) (.tmp 14) (.cst (.bool false))⟩,
⟨some 16,none,.mv (.tmp 15)⟩,
⟨some 17,some (16,true),.mv (.tmp 0)⟩,
⟨some 18,some (16,true),.call 41 [(.tmp 17),(.cst (.bool false))]⟩,
⟨some 19,some (16,true),.mv (.tmp 0)⟩,
⟨some 20,some (16,true),.len .s (.tmp 19)⟩,
⟨some 21,some (16,true),.bin .eql .plain (.tmp 18) (.tmp 20)⟩,
⟨some 22,none,.pick (.tmp 16) (.tmp 21) (.cst (.bool false))⟩,
⟨some 23,none,.mv (.tmp 22)⟩,
⟨some 24,some (23,true),.mv (.tmp 0)⟩,
⟨some 25,some (23,true),.call 42 [(.tmp 24)]⟩,
⟨some 26,some (23,true),.un .not (.tmp 25)⟩,
⟨some 27,none,.pick (.tmp 23) (.tmp 26) (.cst (.bool false))⟩,
⟨some 2,none,.mv (.tmp 27)⟩])
(.ret))⟩
theorem tr30 : trF Go.Proofs.Tryd.prog { obj := [],bare := [],loops := [],draws := [],glob := globs,fresh := false } Go.Proofs.Tryd.f30 = some ir30 := by kernel_rfl
def ir31 : IFn := ⟨19,[.tmp 4 false],
.seq (.reg [⟨some 4,none,.mv (.cst (.bool false))⟩])
(.seq (.seq (.reg [⟨some 5,none,.mv (.cst (.int .i64 0))⟩])
(.block 0
(.loop [0,1,5]
(.seq (.seq (.reg [⟨some 6,none,.mv (.tmp 5)⟩,
⟨some 7,none,.mv (.tmp 0)⟩,
⟨some 8,none,.len .i (.tmp 7)⟩,
⟨some 9,none,.bin .lss .plain (.tmp 6) (.tmp 8)⟩])
(.cond (.tmp 9)
(.skip)
(.brk 0)))
(.seq (.block 1
(.seq (.reg [⟨some 12,none,.mv (.tmp 0)⟩,
⟨some 13,none,.mv (.tmp 5)⟩,
⟨some 14,none,.idxS (.tmp 12) (.tmp 13) 5⟩,
⟨some 15,none,.load (.tmp 14) 5 true⟩,
⟨some 16,none,.mv (.tmp 1)⟩,
⟨some 17,none,.call 43 [(.tmp 15),(.tmp 16)]⟩,
⟨some 18,none,.un .not (.tmp 17)⟩])
(.cond (.tmp 18)
(.seq (.reg [⟨some 4,none,.mv (.cst (.bool false))⟩])
(.ret))
(.skip))))
(.reg [⟨some 10,none,.mv (.tmp 5)⟩,
⟨some 11,none,.bin .add .plain (.tmp 10) (.cst (.int .i64 1))⟩,
⟨some 5,none,.mv (.tmp 11)⟩]))))))
(.seq (.reg [⟨some 4,none,.mv (.cst (.bool true))⟩])
(.ret)))⟩
theorem tr31 : trF Go.Proofs.Tryd.prog { obj := [],bare := [],loops := [[0,1,5]],draws := [],glob := globs,fresh := false } Go.Proofs.Tryd.f31 = some ir31 := by kernel_rfl
def ir32 : IFn := ⟨77,[.tmp 2 false],
.seq (.reg [⟨some 1,none,.box (.tmp 0) false⟩,
⟨some 2,none,.mv (.cst (.str ⟨#[]⟩))⟩])
(.seq (.reg [⟨some 3,none,.mv (.cst (.str ⟨#[]⟩))⟩])
(.seq (.seq (.reg [⟨some 4,none,.mv (.cst (.int .i64 0))⟩])
(.block 0
(.loop [1,3,4]
(.seq (.seq (.reg [⟨some 8,none,.mv (.tmp 4)⟩,
⟨some 9,none,.fad (.tmp 1) 0⟩,
⟨some 10,none,.load (.tmp 9) 1 false⟩,
⟨some 11,none,.len .i (.tmp 10)⟩,
⟨some 12,none,.bin .lss .plain (.tmp 8) (.tmp 11)⟩])
(.cond (.tmp 12)
(.skip)
(.brk 0)))
(.seq (.block 1
(.seq (.reg [⟨some 15,none,.fad (.tmp 1) 0⟩,
⟨some 16,none,.load (.tmp 15) 1 false⟩,
⟨some 17,none,.mv (.tmp 4)⟩,
⟨some 18,none,.idxS (.tmp 16) (.tmp 17) 4⟩,
⟨some 19,none,.load (.tmp 18) 4 true⟩,
⟨some 5,none,.allocz [(.str ⟨#[]⟩),(.int .i64 0),(.int .i64 0),(.int .i64 0)] false⟩,
⟨none,none,.store (.tmp 5) (.tmp 19) 4⟩])
(.seq (.reg [⟨some 6,none,.mv (.cst (.str ⟨#[]⟩))⟩])
(.seq (.seq (.reg [⟨some 20,none,.fad (.tmp 5) 3⟩,
⟨some 21,none,.load (.tmp 20) 1 false⟩,
⟨some 22,none,.bin .neq .plain (.tmp 21) (.cst (.int .i64 0))⟩])
(.cond (.tmp 22)
(.reg [⟨some 23,none,.fad (.tmp 5) 3⟩,
⟨some 24,none,.load (.tmp 23) 1 false⟩,
⟨some 25,none,.call 44 [(.tmp 24)]⟩,
⟨some 26,none,.bin .add .plain (.cst (.str ⟨#[91]⟩)) (.tmp 25)⟩,
⟨some 27,none,.bin .add .plain (.tmp 26) (.cst (.str ⟨#[93]⟩))⟩,
⟨some 6,none,.mv (.tmp 27)⟩])
(.skip)))
(.draw [(⟨some 28,none,.mv (.tmp 3)⟩,0,[]),
(⟨some 29,none,.bin .add .plain (.tmp 28) (.cst (.str ⟨#[105,110,32]⟩))⟩,1,[]),
(⟨some 30,none,.fad (.tmp 5) 0⟩,2,[]),
(⟨some 31,none,.load (.tmp 30) 1 false⟩,3,[]),
(⟨some 32,none,.bin .add .plain (.tmp 29) (.tmp 31)⟩,4,[]),
(⟨some 33,none,.mv (.tmp 6)⟩,5,[]),
(⟨some 34,none,.bin .add .plain (.tmp 32) (.tmp 33)⟩,6,[]),
(⟨some 35,none,.bin .add .plain (.tmp 34) (.cst (.str ⟨#[32,102,114,111,109,32]⟩))⟩,7,[]),
(⟨some 36,none,.fad (.tmp 5) 1⟩,8,[]),
(⟨some 37,none,.load (.tmp 36) 1 false⟩,9,[]),
(⟨some 41,none,.fad (.tmp 5) 2⟩,13,[]),
(⟨some 42,none,.load (.tmp 41) 1 false⟩,14,[]),
(⟨some 38,none,.call 44 [(.tmp 37)]⟩,10,[3,11]),
(⟨some 39,none,.bin .add .plain (.tmp 35) (.tmp 38)⟩,11,[]),
(⟨some 40,none,.bin .add .plain (.tmp 39) (.cst (.str ⟨#[58,32]⟩))⟩,12,[]),
(⟨some 43,none,.call 44 [(.tmp 42)]⟩,15,[3]),
(⟨some 44,none,.bin .add .plain (.tmp 40) (.tmp 43)⟩,16,[]),
(⟨some 45,none,.bin .add .plain (.tmp 44) (.cst (.str ⟨#[59,10]⟩))⟩,17,[]),
(⟨some 3,none,.mv (.tmp 45)⟩,18,[])])))))
(.reg [⟨some 13,none,.mv (.tmp 4)⟩,
⟨some 14,none,.bin .add .plain (.tmp 13) (.cst (.int .i64 1))⟩,
⟨some 4,none,.mv (.tmp 14)⟩]))))))
(.seq (.seq (.reg [⟨some 7,none,.mv (.cst (.int .i64 0))⟩])
(.block 2
(.loop [1,3,7]
(.seq (.seq (.reg [⟨some 46,none,.mv (.tmp 7)⟩,
⟨some 47,none,.fad (.tmp 1) 1⟩,
⟨some 48,none,.load (.tmp 47) 1 false⟩,
⟨some 49,none,.len .i (.tmp 48)⟩,
⟨some 50,none,.bin .lss .plain (.tmp 46) (.tmp 49)⟩])
(.cond (.tmp 50)
(.skip)
(.brk 2)))
(.seq (.block 3
(.draw [(⟨some 53,none,.mv (.tmp 3)⟩,0,[]),
(⟨some 54,none,.bin .add .plain (.tmp 53) (.cst (.str ⟨#[97,114,114,97,121,32]⟩))⟩,1,[]),
(⟨some 55,none,.fad (.tmp 1) 1⟩,2,[]),
(⟨some 56,none,.load (.tmp 55) 1 false⟩,3,[]),
(⟨some 57,none,.mv (.tmp 7)⟩,4,[]),
(⟨some 58,none,.idxS (.tmp 56) (.tmp 57) 2⟩,5,[]),
(⟨some 59,none,.fad (.tmp 58) 0⟩,6,[]),
(⟨some 60,none,.load (.tmp 59) 1 false⟩,7,[]),
(⟨some 61,none,.bin .add .plain (.tmp 54) (.tmp 60)⟩,8,[]),
(⟨some 62,none,.bin .add .plain (.tmp 61) (.cst (.str ⟨#[91]⟩))⟩,9,[]),
(⟨some 63,none,.fad (.tmp 1) 1⟩,10,[]),
(⟨some 64,none,.load (.tmp 63) 1 false⟩,11,[]),
(⟨some 65,none,.mv (.tmp 7)⟩,12,[]),
(⟨some 66,none,.idxS (.tmp 64) (.tmp 65) 2⟩,13,[]),
(⟨some 67,none,.fad (.tmp 66) 1⟩,14,[]),
(⟨some 68,none,.load (.tmp 67) 1 false⟩,15,[]),
(⟨some 69,none,.call 44 [(.tmp 68)]⟩,16,[3,7]),
(⟨some 70,none,.bin .add .plain (.tmp 62) (.tmp 69)⟩,17,[]),
(⟨some 71,none,.bin .add .plain (.tmp 70) (.cst (.str ⟨#[93,59,10]⟩))⟩,18,[]),
(⟨some 3,none,.mv (.tmp 71)⟩,19,[])]))
(.reg [⟨some 51,none,.mv (.tmp 7)⟩,
⟨some 52,none,.bin .add .plain (.tmp 51) (.cst (.int .i64 1))⟩,
⟨some 7,none,.mv (.tmp 52)⟩]))))))
(.seq (.reg [⟨some 72,none,.mv (.tmp 3)⟩,
⟨some 73,none,.fad (.tmp 1) 2⟩,
⟨some 74,none,.load (.tmp 73) 1 false⟩,
⟨some 75,none,.call 45 [(.tmp 74),(.cst (.str ⟨#[]⟩))]⟩,
⟨some 76,none,.bin .add .plain (.tmp 72) (.tmp 75)⟩,
⟨some 2,none,.mv (.tmp 76)⟩])
(.ret)))))⟩
theorem tr32 : trF Go.Proofs.Tryd.prog { obj := [],bare := [],loops := [[1,3,4],[1,3,7]],draws := [(9,([0,1,0,4,15,0,63,127,0,256,768,2047,4095,0,8192,26368,65535,131071,262143],[(0,[]),(1,[]),(2,[]),(3,[]),(4,[]),(5,[]),(6,[]),(7,[]),(8,[]),(9,[]),(13,[]),(14,[]),(10,[3,11]),(11,[]),(12,[]),(15,[3]),(16,[]),(17,[]),(18,[])])),(13,([0,1,0,4,0,28,60,124,255,511,0,1024,0,7168,15360,31744,64512,131071,262143,524287],[(0,[]),(1,[]),(2,[]),(3,[]),(4,[]),(5,[]),(6,[]),(7,[]),(8,[]),(9,[]),(10,[]),(11,[]),(12,[]),(13,[]),(14,[]),(15,[]),(16,[3,7]),(17,[]),(18,[]),(19,[])]))],glob := globs,fresh := false } Go.Proofs.Tryd.f32 = some ir32 := by kernel_rfl
def ir33 : IFn := ⟨36,[.tmp 2 false],
.seq (.reg [⟨some 2,none,.mv (.cst (.int .i64 0))⟩])
(.seq (.reg [⟨some 5,none,.mv (.tmp 0)⟩,
⟨some 6,none,.len .i (.tmp 5)⟩,
⟨some 3,none,.mv (.tmp 6)⟩])
(.seq (.seq (.reg [⟨some 4,none,.mv (.cst (.int .i64 0))⟩])
(.block 0
(.loop [0,3,4]
(.seq (.seq (.reg [⟨some 7,none,.mv (.tmp 4)⟩,
⟨some 8,none,.mv (.tmp 0)⟩,
⟨some 9,none,.len .i (.tmp 8)⟩,
⟨some 10,none,.bin .lss .plain (.tmp 7) (.tmp 9)⟩])
(.cond (.tmp 10)
(.skip)
(.brk 0)))
(.seq (.block 1
(.draw [(⟨some 13,none,.mv (.tmp 3)⟩,0,[]),
(⟨some 14,none,.mv (.tmp 0)⟩,1,[]),
(⟨some 15,none,.mv (.tmp 4)⟩,2,[]),
(⟨some 16,none,.idxS (.tmp 14) (.tmp 15) 5⟩,3,[]),
(⟨some 17,none,.fad (.tmp 16) 2⟩,4,[]),
(⟨some 18,none,.load (.tmp 17) 1 false⟩,5,[]),
(⟨some 21,none,.mv (.tmp 0)⟩,8,[]),
(⟨some 22,none,.mv (.tmp 4)⟩,9,[]),
(⟨some 23,none,.idxS (.tmp 21) (.tmp 22) 5⟩,10,[]),
(⟨some 24,none,.fad (.tmp 23) 3⟩,11,[]),
(⟨some 25,none,.load (.tmp 24) 1 false⟩,12,[]),
(⟨some 28,none,.mv (.tmp 0)⟩,15,[]),
(⟨some 29,none,.mv (.tmp 4)⟩,16,[]),
(⟨some 30,none,.idxS (.tmp 28) (.tmp 29) 5⟩,17,[]),
(⟨some 31,none,.fad (.tmp 30) 4⟩,18,[]),
(⟨some 32,none,.load (.tmp 31) 1 false⟩,19,[]),
(⟨some 19,none,.call 46 [(.tmp 18)]⟩,6,[10,15]),
(⟨some 20,none,.bin .add .plain (.tmp 13) (.tmp 19)⟩,7,[]),
(⟨some 26,none,.call 33 [(.tmp 25)]⟩,13,[15]),
(⟨some 27,none,.bin .add .plain (.tmp 20) (.tmp 26)⟩,14,[]),
(⟨some 33,none,.call 33 [(.tmp 32)]⟩,20,[]),
(⟨some 34,none,.bin .add .plain (.tmp 27) (.tmp 33)⟩,21,[]),
(⟨some 3,none,.mv (.tmp 34)⟩,22,[])]))
(.reg [⟨some 11,none,.mv (.tmp 4)⟩,
⟨some 12,none,.bin .add .plain (.tmp 11) (.cst (.int .i64 1))⟩,
⟨some 4,none,.mv (.tmp 12)⟩]))))))
(.seq (.reg [⟨some 35,none,.mv (.tmp 3)⟩,
⟨some 2,none,.mv (.tmp 35)⟩])
(.ret))))⟩
theorem tr33 : trF Go.Proofs.Tryd.prog { obj := [],bare := [],loops := [[0,3,4]],draws := [(5,([0,0,0,6,14,30,62,127,0,0,768,1792,3840,8062,16383,0,0,98304,229376,491520,1032062,2097151,4194303],[(0,[]),(1,[]),(2,[]),(3,[]),(4,[]),(5,[]),(8,[]),(9,[]),(10,[]),(11,[]),(12,[]),(15,[]),(16,[]),(17,[]),(18,[]),(19,[]),(6,[10,15]),(7,[]),(13,[15]),(14,[]),(20,[]),(21,[]),(22,[])]))],glob := globs,fresh := false } Go.Proofs.Tryd.f33 = some ir33 := by kernel_rfl
def ir34 : IFn := ⟨9,[],
.draw [(⟨some 6,none,.mv (.tmp 2)⟩,0,[]),
(⟨some 7,none,.asrt 74 (.tmp 6)⟩,1,[]),
(⟨some 8,none,.fld (.tmp 7) 0 1 false⟩,2,[]),
(⟨none,none,.store (.tmp 0) (.cst (.int .i64 0)) 1⟩,3,[]),
(⟨none,none,.store (.tmp 1) (.tmp 8) 1⟩,4,[])]⟩
def hs34 : Hints := { obj := [],bare := [],loops := [],draws := [(2,([0,1,3,0,15],[(0,[]),(1,[]),(2,[]),(3,[]),(4,[])]))],glob := globs,fresh := false }
theorem tr34 : trF Go.Proofs.Tryd.prog (hs34) (thenOf Go.Proofs.Tryd.f34) = some ir34 := by kernel_rfl
def ir35 : IFn := ⟨45,[.tmp 4 false],
.seq (.reg [⟨some 4,none,.mv (.cst (.bool false))⟩])
(.seq (.reg [⟨some 12,none,.mv (.tmp 0)⟩,
⟨some 13,none,.nilc (.tmp 12)⟩,
⟨some 14,none,.fad (.tmp 13) 0⟩,
⟨some 15,none,.load (.tmp 14) 1 false⟩,
⟨some 16,none,.mv (.tmp 1)⟩,
⟨some 17,none,.lkp .s (.tmp 15) (.tmp 16) (.agg [(.str ⟨#[]⟩),(.int .i64 0),(.int .i64 0),(.int .i64 0)]) true⟩,
⟨some 11,none,.mv (.tmp 17)⟩,
⟨some 18,none,.ext (.tmp 11) 0⟩,
⟨some 19,none,.ext (.tmp 11) 1⟩,
⟨some 5,none,.allocz [(.str ⟨#[]⟩),(.int .i64 0),(.int .i64 0),(.int .i64 0)] false⟩,
⟨none,none,.store (.tmp 5) (.tmp 18) 4⟩,
⟨some 6,none,.mv (.tmp 19)⟩])
(.seq (.reg [⟨some 21,none,.mv (.tmp 0)⟩,
⟨some 22,none,.nilc (.tmp 21)⟩,
⟨some 23,none,.fad (.tmp 22) 1⟩,
⟨some 24,none,.load (.tmp 23) 1 false⟩,
⟨some 25,none,.mv (.tmp 1)⟩,
⟨some 26,none,.lkp .s (.tmp 24) (.tmp 25) (.int .i64 0) true⟩,
⟨some 20,none,.mv (.tmp 26)⟩,
⟨some 27,none,.ext (.tmp 20) 0⟩,
⟨some 28,none,.ext (.tmp 20) 1⟩,
⟨some 7,none,.mv (.tmp 27)⟩,
⟨some 8,none,.mv (.tmp 28)⟩])
(.seq (.reg [⟨some 30,none,.mv (.tmp 0)⟩,
⟨some 31,none,.nilc (.tmp 30)⟩,
⟨some 32,none,.fad (.tmp 31) 4⟩,
⟨some 33,none,.load (.tmp 32) 1 false⟩,
⟨some 34,none,.mv (.tmp 1)⟩,
⟨some 35,none,.lkp .s (.tmp 33) (.tmp 34) (.agg [(.int .i64 0),(.int .i64 0),(.bool false),(.int .u64 0)]) true⟩,
⟨some 29,none,.mv (.tmp 35)⟩,
⟨some 36,none,.ext (.tmp 29) 0⟩,
⟨some 37,none,.ext (.tmp 29) 1⟩,
⟨some 9,none,.allocz [(.int .i64 0),(.int .i64 0),(.bool false),(.int .u64 0)] false⟩,
⟨none,none,.store (.tmp 9) (.tmp 36) 4⟩,
⟨some 10,none,.mv (.tmp 37)⟩])
(.seq (.reg [⟨some 38,none,.mv (.tmp 6)⟩,
⟨some 39,none,.mv (.tmp 38)⟩,
⟨some 40,some (39,false),.mv (.tmp 8)⟩,
⟨some 41,none,.pick (.tmp 39) (.cst (.bool true)) (.tmp 40)⟩,
⟨some 42,none,.mv (.tmp 41)⟩,
⟨some 43,some (42,false),.mv (.tmp 10)⟩,
⟨some 44,none,.pick (.tmp 42) (.cst (.bool true)) (.tmp 43)⟩,
⟨some 4,none,.mv (.tmp 44)⟩])
(.ret)))))⟩
theorem tr35 : trF Go.Proofs.Tryd.prog { obj := [],bare := [],loops := [],draws := [],glob := globs,fresh := false } Go.Proofs.Tryd.f35 = some ir35 := by kernel_rfl
def ir36 : IFn := ⟨5,[],
.reg [⟨some 2,none,.mv (.tmp 0)⟩,
⟨some 3,none,.bld [(.int .i64 0)] [(0,1,(.tmp 2))]⟩,
⟨some 4,none,.mkI 74 (.tmp 3)⟩,
⟨none,none,.pan (.tmp 4)⟩]⟩
theorem tr36 : trF Go.Proofs.Tryd.prog { obj := [],bare := [],loops := [],draws := [],glob := globs,fresh := false } Go.Proofs.Tryd.f36 = some ir36 := by kernel_rfl
def ir37 : IFn := ⟨22,[],
.seq (.reg [⟨some 6,none,.mv (.tmp 1)⟩,
⟨some 7,none,.len .i (.tmp 6)⟩,
⟨some 8,none,.mv (.cst (.int .i64 0))⟩])
(.block 0
(.loop [0,6,7,8]
(.seq (.reg [⟨some 9,none,.bin .lss .plain (.tmp 8) (.tmp 7)⟩])
(.seq (.cond (.tmp 9)
(.skip)
(.brk 0))
(.seq (.block 1
(.seq (.reg [⟨some 10,none,.idxS (.tmp 6) (.tmp 8) 5⟩,
⟨some 11,none,.load (.tmp 10) 5 true⟩,
⟨some 5,none,.allocz [(.int .i64 0),(.str ⟨#[]⟩),(.vec [] .full),(.vec [] .full),(.vec [] .full)] false⟩,
⟨none,none,.store (.tmp 5) (.tmp 11) 5⟩])
(.seq (.reg [⟨some 12,none,.mv (.tmp 0)⟩,
⟨some 13,none,.call 47 [(.tmp 12)]⟩])
(.draw [(⟨some 14,none,.mv (.tmp 0)⟩,0,[]),
(⟨some 15,none,.load (.tmp 5) 5 true⟩,1,[]),
(⟨some 16,none,.mv (.tmp 0)⟩,2,[]),
(⟨some 17,none,.fad (.tmp 5) 2⟩,3,[]),
(⟨some 18,none,.load (.tmp 17) 1 false⟩,4,[]),
(⟨some 19,none,.call 49 [(.tmp 16),(.tmp 18)]⟩,5,[1]),
(⟨some 20,none,.call 48 [(.tmp 14),(.tmp 15),(.tmp 19)]⟩,6,[])]))))
(.reg [⟨some 21,none,.bin .add .plain (.tmp 8) (.cst (.int .i64 1))⟩,
⟨some 8,none,.mv (.tmp 21)⟩]))))))⟩
theorem tr37 : trF Go.Proofs.Tryd.prog { obj := [],bare := [],loops := [[0,6,7,8]],draws := [(4,([0,0,0,0,8,28,63],[(0,[]),(1,[]),(2,[]),(3,[]),(4,[]),(5,[1]),(6,[])]))],glob := globs,fresh := false } Go.Proofs.Tryd.f37 = some ir37 := by kernel_rfl
def ir38 : IFn := ⟨60,[.tmp 2 false],
.seq (.reg [⟨some 1,none,.box (.tmp 0) false⟩,
⟨some 2,none,.mv (.cst (.bool false))⟩])
(.seq (.reg [⟨some 3,none,.mv (.cst (.vec [] .full))⟩])
(.seq (.seq (.reg [⟨some 4,none,.mv (.cst (.int .i64 0))⟩])
(.block 0
(.loop [1,3,4]
(.seq (.seq (.reg [⟨some 8,none,.mv (.tmp 4)⟩,
⟨some 9,none,.fad (.tmp 1) 0⟩,
⟨some 10,none,.load (.tmp 9) 1 false⟩,
⟨some 11,none,.len .i (.tmp 10)⟩,
⟨some 12,none,.bin .lss .plain (.tmp 8) (.tmp 11)⟩])
(.cond (.tmp 12)
(.skip)
(.brk 0)))
(.seq (.block 1
(.reg [⟨some 15,none,.mv (.tmp 3)⟩,
⟨some 16,none,.fad (.tmp 1) 0⟩,
⟨some 17,none,.load (.tmp 16) 1 false⟩,
⟨some 18,none,.mv (.tmp 4)⟩,
⟨some 19,none,.idxS (.tmp 17) (.tmp 18) 4⟩,
⟨some 20,none,.fad (.tmp 19) 0⟩,
⟨some 21,none,.load (.tmp 20) 1 false⟩,
⟨some 22,none,.bsl 1 1 false [(.str ⟨#[]⟩)] [(0,1,(.tmp 21))]⟩,
⟨some 23,none,.app (.tmp 15) (.tmp 22) 1 16 false false⟩,
⟨some 3,none,.mv (.tmp 23)⟩]))
(.reg [⟨some 13,none,.mv (.tmp 4)⟩,
⟨some 14,none,.bin .add .plain (.tmp 13) (.cst (.int .i64 1))⟩,
⟨some 4,none,.mv (.tmp 14)⟩]))))))
(.seq (.seq (.reg [⟨some 5,none,.mv (.cst (.int .i64 0))⟩])
(.block 2
(.loop [1,3,5]
(.seq (.seq (.reg [⟨some 24,none,.mv (.tmp 5)⟩,
⟨some 25,none,.fad (.tmp 1) 1⟩,
⟨some 26,none,.load (.tmp 25) 1 false⟩,
⟨some 27,none,.len .i (.tmp 26)⟩,
⟨some 28,none,.bin .lss .plain (.tmp 24) (.tmp 27)⟩])
(.cond (.tmp 28)
(.skip)
(.brk 2)))
(.seq (.block 3
(.reg [⟨some 31,none,.mv (.tmp 3)⟩,
⟨some 32,none,.fad (.tmp 1) 1⟩,
⟨some 33,none,.load (.tmp 32) 1 false⟩,
⟨some 34,none,.mv (.tmp 5)⟩,
⟨some 35,none,.idxS (.tmp 33) (.tmp 34) 2⟩,
⟨some 36,none,.fad (.tmp 35) 0⟩,
⟨some 37,none,.load (.tmp 36) 1 false⟩,
⟨some 38,none,.bsl 1 1 false [(.str ⟨#[]⟩)] [(0,1,(.tmp 37))]⟩,
⟨some 39,none,.app (.tmp 31) (.tmp 38) 1 16 false false⟩,
⟨some 3,none,.mv (.tmp 39)⟩]))
(.reg [⟨some 29,none,.mv (.tmp 5)⟩,
⟨some 30,none,.bin .add .plain (.tmp 29) (.cst (.int .i64 1))⟩,
⟨some 5,none,.mv (.tmp 30)⟩]))))))
(.seq (.seq (.reg [⟨some 6,none,.mv (.cst (.int .i64 0))⟩])
(.block 4
(.loop [3,6]
(.seq (.seq (.reg [⟨some 40,none,.mv (.tmp 6)⟩,
⟨some 41,none,.mv (.tmp 3)⟩,
⟨some 42,none,.len .i (.tmp 41)⟩,
⟨some 43,none,.bin .lss .plain (.tmp 40) (.tmp 42)⟩])
(.cond (.tmp 43)
(.skip)
(.brk 4)))
(.seq (.block 5
(.seq (.reg [⟨some 7,none,.mv (.cst (.int .i64 0))⟩])
(.block 6
(.loop [3,6,7]
(.seq (.seq (.reg [⟨some 46,none,.mv (.tmp 7)⟩,
⟨some 47,none,.mv (.tmp 6)⟩,
⟨some 48,none,.bin .lss .plain (.tmp 46) (.tmp 47)⟩])
(.cond (.tmp 48)
(.skip)
(.brk 6)))
(.seq (.block 7
(.seq (.draw [(⟨some 51,none,.mv (.tmp 3)⟩,0,[]),
(⟨some 52,none,.mv (.tmp 6)⟩,1,[]),
(⟨some 53,none,.idxS (.tmp 51) (.tmp 52) 1⟩,2,[]),
(⟨some 54,none,.load (.tmp 53) 1 false⟩,3,[]),
(⟨some 55,none,.mv (.tmp 3)⟩,4,[]),
(⟨some 56,none,.mv (.tmp 7)⟩,5,[]),
(⟨some 57,none,.idxS (.tmp 55) (.tmp 56) 1⟩,6,[]),
(⟨some 58,none,.load (.tmp 57) 1 false⟩,7,[]),
(⟨some 59,none,.bin .eql .plain (.tmp 54) (.tmp 58)⟩,8,[])])
(.cond (.tmp 59)
(.seq (.reg [⟨some 2,none,.mv (.cst (.bool false))⟩])
(.ret))
(.skip))))
(.reg [⟨some 49,none,.mv (.tmp 7)⟩,
⟨some 50,none,.bin .add .plain (.tmp 49) (.cst (.int .i64 1))⟩,
⟨some 7,none,.mv (.tmp 50)⟩])))))))
(.reg [⟨some 44,none,.mv (.tmp 6)⟩,
⟨some 45,none,.bin .add .plain (.tmp 44) (.cst (.int .i64 1))⟩,
⟨some 6,none,.mv (.tmp 45)⟩]))))))
(.seq (.reg [⟨some 2,none,.mv (.cst (.bool true))⟩])
(.ret))))))⟩
theorem tr38 : trF Go.Proofs.Tryd.prog { obj := [],bare := [],loops := [[1,3,4],[1,3,5],[3,6],[3,6,7]],draws := [(16,([0,0,3,7,0,0,48,112,255],[(0,[]),(1,[]),(2,[]),(3,[]),(4,[]),(5,[]),(6,[]),(7,[]),(8,[])]))],glob := globs,fresh := false } Go.Proofs.Tryd.f38 = some ir38 := by kernel_rfl
def ir39 : IFn := ⟨22,[.tmp 4 false],
.seq (.reg [⟨some 4,none,.mv (.cst (.int .i64 0))⟩])
(.seq (.seq (.reg [⟨some 5,none,.mv (.cst (.int .i64 0))⟩])
(.block 0
(.loop [0,1,5]
(.seq (.seq (.reg [⟨some 7,none,.mv (.tmp 5)⟩,
⟨some 8,none,.mv (.tmp 1)⟩,
⟨some 9,none,.len .i (.tmp 8)⟩,
⟨some 10,none,.bin .lss .plain (.tmp 7) (.tmp 9)⟩])
(.cond (.tmp 10)
(.skip)
(.brk 0)))
(.seq (.block 1
(.seq (.reg [⟨some 13,none,.mv (.tmp 0)⟩,
⟨some 14,none,.mv (.tmp 1)⟩,
⟨some 15,none,.mv (.tmp 5)⟩,
⟨some 16,none,.idxS (.tmp 14) (.tmp 15) 5⟩,
⟨some 17,none,.load (.tmp 16) 5 true⟩,
⟨some 18,none,.call 50 [(.tmp 13),(.tmp 17)]⟩,
⟨some 6,none,.mv (.tmp 18)⟩])
(.seq (.reg [⟨some 19,none,.mv (.tmp 6)⟩,
⟨some 20,none,.bin .neq .plain (.tmp 19) (.cst (.int .i64 0))⟩])
(.cond (.tmp 20)
(.seq (.reg [⟨some 21,none,.mv (.tmp 6)⟩,
⟨some 4,none,.mv (.tmp 21)⟩])
(.ret))
(.skip)))))
(.reg [⟨some 11,none,.mv (.tmp 5)⟩,
⟨some 12,none,.bin .add .plain (.tmp 11) (.cst (.int .i64 1))⟩,
⟨some 5,none,.mv (.tmp 12)⟩]))))))
(.seq (.reg [⟨some 4,none,.mv (.cst (.int .i64 0))⟩])
(.ret)))⟩
theorem tr39 : trF Go.Proofs.Tryd.prog { obj := [],bare := [],loops := [[0,1,5]],draws := [],glob := globs,fresh := false } Go.Proofs.Tryd.f39 = some ir39 := by kernel_rfl
def ir40 : IFn := ⟨17,[.tmp 2 false],
.seq (.reg [⟨some 2,none,.mv (.cst (.bool false))⟩])
(.seq (.reg [⟨some 3,none,.mv (.tmp 0)⟩,
⟨some 4,none,.bin .geq .plain (.tmp 3) (.cst (.int .u8 97))⟩,
⟨some 5,none,.mv (.tmp 4)⟩,
⟨some 6,some (5,true),.mv (.tmp 0)⟩,
⟨some 7,some (5,true),.bin .leq .plain (.tmp 6) (.cst (.int .u8 122))⟩,
⟨some 8,none,.pick (.tmp 5) (.tmp 7) (.cst (.bool false))⟩,
⟨some 9,none,.mv (.tmp 8)⟩,
⟨some 10,some (9,false),.mv (.tmp 0)⟩,
⟨some 11,some (9,false),.bin .geq .plain (.tmp 10) (.cst (.int .u8 65))⟩,
⟨some 12,some (9,false),.mv (.tmp 11)⟩,
⟨some 13,some (12,true),.mv (.tmp 0)⟩,
⟨some 14,some (12,true),.bin .leq .plain (.tmp 13) (.cst (.int .u8 90))⟩,
⟨some 15,some (9,false),.pick (.tmp 12) (.tmp 14) (.cst (.bool false))⟩,
⟨some 16,none,.pick (.tmp 9) (.cst (.bool true)) (.tmp 15)⟩,
⟨some 2,none,.mv (.tmp 16)⟩])
(.ret))⟩
theorem tr40 : trF Go.Proofs.Tryd.prog { obj := [],bare := [],loops := [],draws := [],glob := globs,fresh := false } Go.Proofs.Tryd.f40 = some ir40 := by kernel_rfl
def ir41 : IFn := ⟨35,[.tmp 4 false],
.seq (.reg [⟨some 4,none,.mv (.cst (.int .i64 0))⟩])
(.seq (.reg [⟨some 5,none,.mv (.cst (.int .i64 0))⟩])
(.seq (.block 0
(.loop [0,1,5]
(.seq (.seq (.reg [⟨some 6,none,.mv (.tmp 5)⟩,
⟨some 7,none,.mv (.tmp 0)⟩,
⟨some 8,none,.len .s (.tmp 7)⟩,
⟨some 9,none,.bin .lss .plain (.tmp 6) (.tmp 8)⟩,
⟨some 10,none,.mv (.tmp 9)⟩,
⟨some 11,some (10,true),.mv (.tmp 0)⟩,
⟨some 12,some (10,true),.mv (.tmp 5)⟩,
⟨some 13,some (10,true),.idxStr (.tmp 11) (.tmp 12)⟩,
⟨some 14,some (10,true),.call 51 [(.tmp 13)]⟩,
⟨some 15,some (10,true),.mv (.tmp 14)⟩,
⟨some 16,some (15,false),.mv (.tmp 1)⟩,
⟨some 17,some (15,false),.un .not (.tmp 16)⟩,
⟨some 18,some (15,false),.mv (.tmp 17)⟩,
⟨some 19,some (18,true),.mv (.tmp 0)⟩,
⟨some 20,some (18,true),.mv (.tmp 5)⟩,
⟨some 21,some (18,true),.idxStr (.tmp 19) (.tmp 20)⟩,
⟨some 22,some (18,true),.call 40 [(.tmp 21)]⟩,
⟨some 23,some (18,true),.mv (.tmp 22)⟩,
⟨some 24,some (23,false),.mv (.tmp 0)⟩,
⟨some 25,some (23,false),.mv (.tmp 5)⟩,
⟨some 26,some (23,false),.idxStr (.tmp 24) (.tmp 25)⟩,
⟨some 27,some (23,false),.bin .eql .plain (.tmp 26) (.cst (.int .u8 95))⟩,
⟨some 28,some (18,true),.pick (.tmp 23) (.cst (.bool true)) (.tmp 27)⟩,
⟨some 29,some (15,false),.pick (.tmp 18) (.tmp 28) (.cst (.bool false))⟩,
⟨some 30,some (10,true),.pick (.tmp 15) (.cst (.bool true)) (.tmp 29)⟩,
⟨some 31,none,.pick (.tmp 10) (.tmp 30) (.cst (.bool false))⟩])
(.cond (.tmp 31)
(.skip)
(.brk 0)))
(.block 1
(.reg [⟨some 32,none,.mv (.tmp 5)⟩,
⟨some 33,none,.bin .add .plain (.tmp 32) (.cst (.int .i64 1))⟩,
⟨some 5,none,.mv (.tmp 33)⟩])))))
(.seq (.reg [⟨some 34,none,.mv (.tmp 5)⟩,
⟨some 4,none,.mv (.tmp 34)⟩])
(.ret))))⟩
theorem tr41 : trF Go.Proofs.Tryd.prog { obj := [],bare := [],loops := [[0,1,5]],draws := [],glob := globs,fresh := false } Go.Proofs.Tryd.f41 = some ir41 := by kernel_rfl
def ir42 : IFn := ⟨18,[.tmp 2 false],
.seq (.reg [⟨some 2,none,.mv (.cst (.bool false))⟩])
(.seq (.reg [⟨some 5,none,.bsl 8 1 false [(.str ⟨#[]⟩)] [(0,1,(.cst (.str ⟨#[105,110]⟩))),(1,1,(.cst (.str ⟨#[102,114,111,109]⟩))),(2,1,(.cst (.str ⟨#[97,114,114,97,121]⟩))),(3,1,(.cst (.str ⟨#[105,102]⟩))),(4,1,(.cst (.str ⟨#[101,108,115,101]⟩))),(5,1,(.cst (.str ⟨#[102,111,114]⟩))),(6,1,(.cst (.str ⟨#[116,111]⟩))),(7,1,(.cst (.str ⟨#[111,117,116]⟩)))]⟩,
⟨some 3,none,.mv (.tmp 5)⟩])
(.seq (.seq (.reg [⟨some 4,none,.mv (.cst (.int .i64 0))⟩])
(.block 0
(.loop [0,3,4]
(.seq (.seq (.reg [⟨some 6,none,.mv (.tmp 4)⟩,
⟨some 7,none,.mv (.tmp 3)⟩,
⟨some 8,none,.len .i (.tmp 7)⟩,
⟨some 9,none,.bin .lss .plain (.tmp 6) (.tmp 8)⟩])
(.cond (.tmp 9)
(.skip)
(.brk 0)))
(.seq (.block 1
(.seq (.reg [⟨some 12,none,.mv (.tmp 0)⟩,
⟨some 13,none,.mv (.tmp 3)⟩,
⟨some 14,none,.mv (.tmp 4)⟩,
⟨some 15,none,.idxS (.tmp 13) (.tmp 14) 1⟩,
⟨some 16,none,.load (.tmp 15) 1 false⟩,
⟨some 17,none,.bin .eql .plain (.tmp 12) (.tmp 16)⟩])
(.cond (.tmp 17)
(.seq (.reg [⟨some 2,none,.mv (.cst (.bool true))⟩])
(.ret))
(.skip))))
(.reg [⟨some 10,none,.mv (.tmp 4)⟩,
⟨some 11,none,.bin .add .plain (.tmp 10) (.cst (.int .i64 1))⟩,
⟨some 4,none,.mv (.tmp 11)⟩]))))))
(.seq (.reg [⟨some 2,none,.mv (.cst (.bool false))⟩])
(.ret))))⟩
theorem tr42 : trF Go.Proofs.Tryd.prog { obj := [],bare := [],loops := [[0,3,4]],draws := [],glob := globs,fresh := false } Go.Proofs.Tryd.f42 = some ir42 := by kernel_rfl
def ir43 : IFn := ⟨110,[.tmp 4 false],
.seq (.reg [⟨some 2,none,.box (.tmp 0) false⟩,
⟨some 4,none,.mv (.cst (.bool false))⟩])
(.seq (.seq (.reg [⟨some 8,none,.mv (.tmp 1)⟩,
⟨some 9,none,.bin .gtr .plain (.tmp 8) (.cst (.int .i64 24))⟩,
⟨some 10,none,.mv (.tmp 9)⟩,
⟨some 11,some (10,false),.fad (.tmp 2) 0⟩,
⟨some 12,some (10,false),.load (.tmp 11) 1 false⟩,
⟨some 13,some (10,false),.bin .lss .plain (.tmp 12) (.cst (.int .i64 1))⟩,
⟨some 14,none,.pick (.tmp 10) (.cst (.bool true)) (.tmp 13)⟩,
⟨some 15,none,.mv (.tmp 14)⟩,
⟨some 16,some (15,false),.fad (.tmp 2) 0⟩,
⟨some 17,some (15,false),.load (.tmp 16) 1 false⟩,
⟨some 18,some (15,false),.bin .gtr .plain (.tmp 17) (.cst (.int .i64 5))⟩,
⟨some 19,none,.pick (.tmp 15) (.cst (.bool true)) (.tmp 18)⟩])
(.cond (.tmp 19)
(.seq (.reg [⟨some 4,none,.mv (.cst (.bool false))⟩])
(.ret))
(.skip)))
(.seq (.reg [⟨some 5,none,.mv (.cst (.int .i64 1))⟩])
(.seq (.seq (.reg [⟨some 20,none,.fad (.tmp 2) 0⟩,
⟨some 21,none,.load (.tmp 20) 1 false⟩,
⟨some 22,none,.bin .eql .plain (.tmp 21) (.cst (.int .i64 2))⟩,
⟨some 23,none,.mv (.tmp 22)⟩,
⟨some 24,some (23,false),.fad (.tmp 2) 0⟩,
⟨some 25,some (23,false),.load (.tmp 24) 1 false⟩,
⟨some 26,some (23,false),.bin .eql .plain (.tmp 25) (.cst (.int .i64 4))⟩,
⟨some 27,none,.pick (.tmp 23) (.cst (.bool true)) (.tmp 26)⟩])
(.cond (.tmp 27)
(.reg [⟨some 5,none,.mv (.cst (.int .i64 2))⟩])
(.skip)))
(.seq (.reg [⟨some 28,none,.fad (.tmp 2) 0⟩,
⟨some 29,none,.load (.tmp 28) 1 false⟩,
⟨some 30,none,.bin .neq .plain (.tmp 29) (.cst (.int .i64 3))⟩,
⟨some 31,none,.mv (.tmp 30)⟩,
⟨some 32,some (31,true),.fad (.tmp 2) 0⟩,
⟨some 33,some (31,true),.load (.tmp 32) 1 false⟩,
⟨some 34,some (31,true),.bin .neq .plain (.tmp 33) (.cst (.int .i64 5))⟩,
⟨some 35,none,.pick (.tmp 31) (.tmp 34) (.cst (.bool false))⟩,
⟨some 6,none,.mv (.tmp 35)⟩])
(.seq (.seq (.reg [⟨some 36,none,.fad (.tmp 2) 2⟩,
⟨some 37,none,.load (.tmp 36) 1 false⟩,
⟨some 38,none,.len .i (.tmp 37)⟩,
⟨some 39,none,.mv (.tmp 5)⟩,
⟨some 40,none,.bin .neq .plain (.tmp 38) (.tmp 39)⟩,
⟨some 41,none,.mv (.tmp 40)⟩,
⟨some 42,some (41,false),.mv (.tmp 6)⟩,
⟨some 43,some (41,false),.mv (.tmp 42)⟩,
⟨some 44,some (43,true),.fad (.tmp 2) 1⟩,
⟨some 45,some (43,true),.load (.tmp 44) 1 false⟩,
⟨some 46,some (43,true),.call 30 [(.tmp 45)]⟩,
⟨some 47,some (43,true),.un .not (.tmp 46)⟩,
⟨some 48,some (41,false),.pick (.tmp 43) (.tmp 47) (.cst (.bool false))⟩,
⟨some 49,none,.pick (.tmp 41) (.cst (.bool true)) (.tmp 48)⟩,
⟨some 50,none,.mv (.tmp 49)⟩,
⟨some 51,some (50,false),.mv (.tmp 6)⟩,
⟨some 52,some (50,false),.un .not (.tmp 51)⟩,
⟨some 53,some (50,false),.mv (.tmp 52)⟩,
⟨some 54,some (53,true),.fad (.tmp 2) 1⟩,
⟨some 55,some (53,true),.load (.tmp 54) 1 false⟩,
⟨some 56,some (53,true),.bin .neq .plain (.tmp 55) (.cst (.str ⟨#[]⟩))⟩,
⟨some 57,some (50,false),.pick (.tmp 53) (.tmp 56) (.cst (.bool false))⟩,
⟨some 58,none,.pick (.tmp 50) (.cst (.bool true)) (.tmp 57)⟩])
(.cond (.tmp 58)
(.seq (.reg [⟨some 4,none,.mv (.cst (.bool false))⟩])
(.ret))
(.skip)))
(.seq (.seq (.reg [⟨some 59,none,.fad (.tmp 2) 0⟩,
⟨some 60,none,.load (.tmp 59) 1 false⟩,
⟨some 61,none,.bin .neq .plain (.tmp 60) (.cst (.int .i64 3))⟩,
⟨some 62,none,.mv (.tmp 61)⟩,
⟨some 63,some (62,true),.fad (.tmp 2) 4⟩,
⟨some 64,some (62,true),.load (.tmp 63) 1 false⟩,
⟨some 65,some (62,true),.len .i (.tmp 64)⟩,
⟨some 66,some (62,true),.bin .gtr .plain (.tmp 65) (.cst (.int .i64 0))⟩,
⟨some 67,none,.pick (.tmp 62) (.tmp 66) (.cst (.bool false))⟩,
⟨some 68,none,.mv (.tmp 67)⟩,
⟨some 69,some (68,false),.fad (.tmp 2) 0⟩,
⟨some 70,some (68,false),.load (.tmp 69) 1 false⟩,
⟨some 71,some (68,false),.bin .neq .plain (.tmp 70) (.cst (.int .i64 3))⟩,
⟨some 72,some (68,false),.mv (.tmp 71)⟩,
⟨some 73,some (72,true),.fad (.tmp 2) 0⟩,
⟨some 74,some (72,true),.load (.tmp 73) 1 false⟩,
⟨some 75,some (72,true),.bin .neq .plain (.tmp 74) (.cst (.int .i64 4))⟩,
⟨some 76,some (68,false),.pick (.tmp 72) (.tmp 75) (.cst (.bool false))⟩,
⟨some 77,some (68,false),.mv (.tmp 76)⟩,
⟨some 78,some (77,true),.fad (.tmp 2) 3⟩,
⟨some 79,some (77,true),.load (.tmp 78) 1 false⟩,
⟨some 80,some (77,true),.len .i (.tmp 79)⟩,
⟨some 81,some (77,true),.bin .gtr .plain (.tmp 80) (.cst (.int .i64 0))⟩,
⟨some 82,some (68,false),.pick (.tmp 77) (.tmp 81) (.cst (.bool false))⟩,
⟨some 83,none,.pick (.tmp 68) (.cst (.bool true)) (.tmp 82)⟩])
(.cond (.tmp 83)
(.seq (.reg [⟨some 4,none,.mv (.cst (.bool false))⟩])
(.ret))
(.skip)))
(.seq (.seq (.reg [⟨some 7,none,.mv (.cst (.int .i64 0))⟩])
(.block 0
(.loop [1,2,5,7]
(.seq (.seq (.reg [⟨some 84,none,.mv (.tmp 7)⟩,
⟨some 85,none,.mv (.tmp 5)⟩,
⟨some 86,none,.bin .lss .plain (.tmp 84) (.tmp 85)⟩])
(.cond (.tmp 86)
(.skip)
(.brk 0)))
(.seq (.block 1
(.seq (.reg [⟨some 89,none,.fad (.tmp 2) 2⟩,
⟨some 90,none,.load (.tmp 89) 1 false⟩,
⟨some 91,none,.mv (.tmp 7)⟩,
⟨some 92,none,.idxS (.tmp 90) (.tmp 91) 5⟩,
⟨some 93,none,.load (.tmp 92) 5 true⟩,
⟨some 94,none,.mv (.tmp 1)⟩,
⟨some 95,none,.bin .add .plain (.tmp 94) (.cst (.int .i64 1))⟩,
⟨some 96,none,.call 52 [(.tmp 93),(.tmp 95)]⟩,
⟨some 97,none,.un .not (.tmp 96)⟩])
(.cond (.tmp 97)
(.seq (.reg [⟨some 4,none,.mv (.cst (.bool false))⟩])
(.ret))
(.skip))))
(.reg [⟨some 87,none,.mv (.tmp 7)⟩,
⟨some 88,none,.bin .add .plain (.tmp 87) (.cst (.int .i64 1))⟩,
⟨some 7,none,.mv (.tmp 88)⟩]))))))
(.seq (.reg [⟨some 98,none,.fad (.tmp 2) 3⟩,
⟨some 99,none,.load (.tmp 98) 1 false⟩,
⟨some 100,none,.mv (.tmp 1)⟩,
⟨some 101,none,.bin .add .plain (.tmp 100) (.cst (.int .i64 1))⟩,
⟨some 102,none,.call 31 [(.tmp 99),(.tmp 101)]⟩,
⟨some 103,none,.mv (.tmp 102)⟩,
⟨some 104,some (103,true),.fad (.tmp 2) 4⟩,
⟨some 105,some (103,true),.load (.tmp 104) 1 false⟩,
⟨some 106,some (103,true),.mv (.tmp 1)⟩,
⟨some 107,some (103,true),.bin .add .plain (.tmp 106) (.cst (.int .i64 1))⟩,
⟨some 108,some (103,true),.call 31 [(.tmp 105),(.tmp 107)]⟩,
⟨some 109,none,.pick (.tmp 103) (.tmp 108) (.cst (.bool false))⟩,
⟨some 4,none,.mv (.tmp 109)⟩])
(.ret)))))))))⟩
theorem tr43 : trF Go.Proofs.Tryd.prog { obj := [],bare := [],loops := [[1,2,5,7]],draws := [],glob := globs,fresh := false } Go.Proofs.Tryd.f43 = some ir43 := by kernel_rfl
def ir44 : IFn := ⟨6,[.tmp 2 false],
.seq (.reg [⟨some 2,none,.mv (.cst (.str ⟨#[]⟩))⟩])
(.seq (.reg [⟨some 3,none,.mv (.tmp 0)⟩,
⟨some 4,none,.cvI .u64 (.tmp 3)⟩,
⟨some 5,none,.call 53 [(.tmp 4)]⟩,
⟨some 2,none,.mv (.tmp 5)⟩])
(.ret))⟩
theorem tr44 : trF Go.Proofs.Tryd.prog { obj := [],bare := [],loops := [],draws := [],glob := globs,fresh := false } Go.Proofs.Tryd.f44 = some ir44 := by kernel_rfl
def ir45 : IFn := ⟨141,[.tmp 4 false],
.seq (.reg [⟨some 4,none,.mv (.cst (.str ⟨#[]⟩))⟩])
(.seq (.reg [⟨some 5,none,.mv (.cst (.str ⟨#[]⟩))⟩])
(.seq (.seq (.reg [⟨some 6,none,.mv (.cst (.int .i64 0))⟩])
(.block 0
(.loop [0,1,5,6]
(.seq (.seq (.reg [⟨some 8,none,.mv (.tmp 6)⟩,
⟨some 9,none,.mv (.tmp 0)⟩,
⟨some 10,none,.len .i (.tmp 9)⟩,
⟨some 11,none,.bin .lss .plain (.tmp 8) (.tmp 10)⟩])
(.cond (.tmp 11)
(.skip)
(.brk 0)))
(.seq (.block 1
(.seq (.reg [⟨some 14,none,.mv (.tmp 0)⟩,
⟨some 15,none,.mv (.tmp 6)⟩,
⟨some 16,none,.idxS (.tmp 14) (.tmp 15) 5⟩,
⟨some 17,none,.load (.tmp 16) 5 true⟩,
⟨some 7,none,.allocz [(.int .i64 0),(.str ⟨#[]⟩),(.vec [] .full),(.vec [] .full),(.vec [] .full)] false⟩,
⟨none,none,.store (.tmp 7) (.tmp 17) 5⟩])
(.seq (.reg [⟨some 18,none,.fad (.tmp 7) 0⟩,
⟨some 19,none,.load (.tmp 18) 1 false⟩])
(.block 2
(.seq (.reg [⟨some 52,none,.bin .eql .plain (.tmp 19) (.cst (.int .i64 1))⟩,
⟨some 51,none,.mv (.tmp 52)⟩])
(.cond (.tmp 51)
(.draw [(⟨some 53,none,.mv (.tmp 5)⟩,0,[]),
(⟨some 54,none,.mv (.tmp 1)⟩,1,[]),
(⟨some 55,none,.bin .add .plain (.tmp 53) (.tmp 54)⟩,2,[]),
(⟨some 56,none,.fad (.tmp 7) 1⟩,3,[]),
(⟨some 57,none,.load (.tmp 56) 1 false⟩,4,[]),
(⟨some 58,none,.bin .add .plain (.tmp 55) (.tmp 57)⟩,5,[]),
(⟨some 59,none,.bin .add .plain (.tmp 58) (.cst (.str ⟨#[32,61,32]⟩))⟩,6,[]),
(⟨some 60,none,.fad (.tmp 7) 2⟩,7,[]),
(⟨some 61,none,.load (.tmp 60) 1 false⟩,8,[]),
(⟨some 62,none,.idxS (.tmp 61) (.cst (.int .i64 0)) 5⟩,9,[]),
(⟨some 63,none,.load (.tmp 62) 5 true⟩,10,[]),
(⟨some 64,none,.call 54 [(.tmp 63)]⟩,11,[4]),
(⟨some 65,none,.bin .add .plain (.tmp 59) (.tmp 64)⟩,12,[]),
(⟨some 66,none,.bin .add .plain (.tmp 65) (.cst (.str ⟨#[59,10]⟩))⟩,13,[]),
(⟨some 5,none,.mv (.tmp 66)⟩,14,[])])
(.seq (.reg [⟨some 68,none,.bin .eql .plain (.tmp 19) (.cst (.int .i64 2))⟩,
⟨some 67,none,.mv (.tmp 68)⟩])
(.cond (.tmp 67)
(.draw [(⟨some 69,none,.mv (.tmp 5)⟩,0,[]),
(⟨some 70,none,.mv (.tmp 1)⟩,1,[]),
(⟨some 71,none,.bin .add .plain (.tmp 69) (.tmp 70)⟩,2,[]),
(⟨some 72,none,.fad (.tmp 7) 1⟩,3,[]),
(⟨some 73,none,.load (.tmp 72) 1 false⟩,4,[]),
(⟨some 74,none,.bin .add .plain (.tmp 71) (.tmp 73)⟩,5,[]),
(⟨some 75,none,.bin .add .plain (.tmp 74) (.cst (.str ⟨#[91]⟩))⟩,6,[]),
(⟨some 76,none,.fad (.tmp 7) 2⟩,7,[]),
(⟨some 77,none,.load (.tmp 76) 1 false⟩,8,[]),
(⟨some 78,none,.idxS (.tmp 77) (.cst (.int .i64 0)) 5⟩,9,[]),
(⟨some 79,none,.load (.tmp 78) 5 true⟩,10,[]),
(⟨some 83,none,.fad (.tmp 7) 2⟩,14,[]),
(⟨some 84,none,.load (.tmp 83) 1 false⟩,15,[]),
(⟨some 85,none,.idxS (.tmp 84) (.cst (.int .i64 1)) 5⟩,16,[]),
(⟨some 86,none,.load (.tmp 85) 5 true⟩,17,[]),
(⟨some 80,none,.call 54 [(.tmp 79)]⟩,11,[4,12,14]),
(⟨some 81,none,.bin .add .plain (.tmp 75) (.tmp 80)⟩,12,[]),
(⟨some 82,none,.bin .add .plain (.tmp 81) (.cst (.str ⟨#[93,32,61,32]⟩))⟩,13,[]),
(⟨some 87,none,.call 54 [(.tmp 86)]⟩,18,[4]),
(⟨some 88,none,.bin .add .plain (.tmp 82) (.tmp 87)⟩,19,[]),
(⟨some 89,none,.bin .add .plain (.tmp 88) (.cst (.str ⟨#[59,10]⟩))⟩,20,[]),
(⟨some 5,none,.mv (.tmp 89)⟩,21,[])])
(.seq (.reg [⟨some 91,none,.bin .eql .plain (.tmp 19) (.cst (.int .i64 5))⟩,
⟨some 90,none,.mv (.tmp 91)⟩])
(.cond (.tmp 90)
(.reg [⟨some 92,none,.mv (.tmp 5)⟩,
⟨some 93,none,.mv (.tmp 1)⟩,
⟨some 94,none,.bin .add .plain (.tmp 92) (.tmp 93)⟩,
⟨some 95,none,.bin .add .plain (.tmp 94) (.cst (.str ⟨#[111,117,116,32]⟩))⟩,
⟨some 96,none,.fad (.tmp 7) 2⟩,
⟨some 97,none,.load (.tmp 96) 1 false⟩,
⟨some 98,none,.idxS (.tmp 97) (.cst (.int .i64 0)) 5⟩,
⟨some 99,none,.load (.tmp 98) 5 true⟩,
⟨some 100,none,.call 54 [(.tmp 99)]⟩,
⟨some 101,none,.bin .add .plain (.tmp 95) (.tmp 100)⟩,
⟨some 102,none,.bin .add .plain (.tmp 101) (.cst (.str ⟨#[59,10]⟩))⟩,
⟨some 5,none,.mv (.tmp 102)⟩])
(.seq (.reg [⟨some 104,none,.bin .eql .plain (.tmp 19) (.cst (.int .i64 3))⟩,
⟨some 103,none,.mv (.tmp 104)⟩])
(.cond (.tmp 103)
(.seq (.draw [(⟨some 105,none,.mv (.tmp 5)⟩,0,[]),
(⟨some 106,none,.mv (.tmp 1)⟩,1,[]),
(⟨some 107,none,.bin .add .plain (.tmp 105) (.tmp 106)⟩,2,[]),
(⟨some 108,none,.bin .add .plain (.tmp 107) (.cst (.str ⟨#[105,102,32,40]⟩))⟩,3,[]),
(⟨some 109,none,.fad (.tmp 7) 2⟩,4,[]),
(⟨some 110,none,.load (.tmp 109) 1 false⟩,5,[]),
(⟨some 111,none,.idxS (.tmp 110) (.cst (.int .i64 0)) 5⟩,6,[]),
(⟨some 112,none,.load (.tmp 111) 5 true⟩,7,[]),
(⟨some 116,none,.fad (.tmp 7) 3⟩,11,[]),
(⟨some 117,none,.load (.tmp 116) 1 false⟩,12,[]),
(⟨some 118,none,.mv (.tmp 1)⟩,13,[]),
(⟨some 119,none,.bin .add .plain (.tmp 118) (.cst (.str ⟨#[32,32]⟩))⟩,14,[]),
(⟨some 113,none,.call 54 [(.tmp 112)]⟩,8,[9]),
(⟨some 114,none,.bin .add .plain (.tmp 108) (.tmp 113)⟩,9,[]),
(⟨some 115,none,.bin .add .plain (.tmp 114) (.cst (.str ⟨#[41,32,123,10]⟩))⟩,10,[]),
(⟨some 120,none,.call 45 [(.tmp 117),(.tmp 119)]⟩,15,[]),
(⟨some 121,none,.bin .add .plain (.tmp 115) (.tmp 120)⟩,16,[]),
(⟨some 5,none,.mv (.tmp 121)⟩,17,[])])
(.seq (.seq (.reg [⟨some 122,none,.fad (.tmp 7) 4⟩,
⟨some 123,none,.load (.tmp 122) 1 false⟩,
⟨some 124,none,.len .i (.tmp 123)⟩,
⟨some 125,none,.bin .gtr .plain (.tmp 124) (.cst (.int .i64 0))⟩])
(.cond (.tmp 125)
(.reg [⟨some 126,none,.mv (.tmp 5)⟩,
⟨some 127,none,.mv (.tmp 1)⟩,
⟨some 128,none,.bin .add .plain (.tmp 126) (.tmp 127)⟩,
⟨some 129,none,.bin .add .plain (.tmp 128) (.cst (.str ⟨#[125,32,101,108,115,101,32,123,10]⟩))⟩,
⟨some 130,none,.fad (.tmp 7) 4⟩,
⟨some 131,none,.load (.tmp 130) 1 false⟩,
⟨some 132,none,.mv (.tmp 1)⟩,
⟨some 133,none,.bin .add .plain (.tmp 132) (.cst (.str ⟨#[32,32]⟩))⟩,
⟨some 134,none,.call 45 [(.tmp 131),(.tmp 133)]⟩,
⟨some 135,none,.bin .add .plain (.tmp 129) (.tmp 134)⟩,
⟨some 5,none,.mv (.tmp 135)⟩])
(.skip)))
(.reg [⟨some 136,none,.mv (.tmp 5)⟩,
⟨some 137,none,.mv (.tmp 1)⟩,
⟨some 138,none,.bin .add .plain (.tmp 136) (.tmp 137)⟩,
⟨some 139,none,.bin .add .plain (.tmp 138) (.cst (.str ⟨#[125,10]⟩))⟩,
⟨some 5,none,.mv (.tmp 139)⟩])))
(.draw [(⟨some 20,none,.mv (.tmp 5)⟩,0,[]),
(⟨some 21,none,.mv (.tmp 1)⟩,1,[]),
(⟨some 22,none,.bin .add .plain (.tmp 20) (.tmp 21)⟩,2,[]),
(⟨some 23,none,.bin .add .plain (.tmp 22) (.cst (.str ⟨#[102,111,114,32]⟩))⟩,3,[]),
(⟨some 24,none,.fad (.tmp 7) 1⟩,4,[]),
(⟨some 25,none,.load (.tmp 24) 1 false⟩,5,[]),
(⟨some 26,none,.bin .add .plain (.tmp 23) (.tmp 25)⟩,6,[]),
(⟨some 27,none,.bin .add .plain (.tmp 26) (.cst (.str ⟨#[32,61,32]⟩))⟩,7,[]),
(⟨some 28,none,.fad (.tmp 7) 2⟩,8,[]),
(⟨some 29,none,.load (.tmp 28) 1 false⟩,9,[]),
(⟨some 30,none,.idxS (.tmp 29) (.cst (.int .i64 0)) 5⟩,10,[]),
(⟨some 31,none,.load (.tmp 30) 5 true⟩,11,[]),
(⟨some 35,none,.fad (.tmp 7) 2⟩,15,[]),
(⟨some 36,none,.load (.tmp 35) 1 false⟩,16,[]),
(⟨some 37,none,.idxS (.tmp 36) (.cst (.int .i64 1)) 5⟩,17,[]),
(⟨some 38,none,.load (.tmp 37) 5 true⟩,18,[]),
(⟨some 42,none,.fad (.tmp 7) 3⟩,22,[]),
(⟨some 43,none,.load (.tmp 42) 1 false⟩,23,[]),
(⟨some 44,none,.mv (.tmp 1)⟩,24,[]),
(⟨some 45,none,.bin .add .plain (.tmp 44) (.cst (.str ⟨#[32,32]⟩))⟩,25,[]),
(⟨some 48,none,.mv (.tmp 1)⟩,28,[]),
(⟨some 32,none,.call 54 [(.tmp 31)]⟩,12,[5,13,15,17]),
(⟨some 33,none,.bin .add .plain (.tmp 27) (.tmp 32)⟩,13,[]),
(⟨some 34,none,.bin .add .plain (.tmp 33) (.cst (.str ⟨#[32,116,111,32]⟩))⟩,14,[]),
(⟨some 39,none,.call 54 [(.tmp 38)]⟩,19,[5,17]),
(⟨some 40,none,.bin .add .plain (.tmp 34) (.tmp 39)⟩,20,[]),
(⟨some 41,none,.bin .add .plain (.tmp 40) (.cst (.str ⟨#[32,123,10]⟩))⟩,21,[]),
(⟨some 46,none,.call 45 [(.tmp 43),(.tmp 45)]⟩,26,[5]),
(⟨some 47,none,.bin .add .plain (.tmp 41) (.tmp 46)⟩,27,[]),
(⟨some 49,none,.bin .add .plain (.tmp 47) (.tmp 48)⟩,29,[]),
(⟨some 50,none,.bin .add .plain (.tmp 49) (.cst (.str ⟨#[125,10]⟩))⟩,30,[]),
(⟨some 5,none,.mv (.tmp 50)⟩,31,[])])))))))))))))
(.reg [⟨some 12,none,.mv (.tmp 6)⟩,
⟨some 13,none,.bin .add .plain (.tmp 12) (.cst (.int .i64 1))⟩,
⟨some 6,none,.mv (.tmp 13)⟩]))))))
(.seq (.reg [⟨some 140,none,.mv (.tmp 5)⟩,
⟨some 4,none,.mv (.tmp 140)⟩])
(.ret))))⟩
theorem tr45 : trF Go.Proofs.Tryd.prog { obj := [],bare := [],loops := [[0,1,5,6]],draws := [(9,([0,0,3,0,8,31,63,0,128,384,896,1920,4095,8191,16383],[(0,[]),(1,[]),(2,[]),(3,[]),(4,[]),(5,[]),(6,[]),(7,[]),(8,[]),(9,[]),(10,[]),(11,[4]),(12,[]),(13,[]),(14,[])])),(11,([0,0,3,0,8,31,63,0,128,384,896,1920,4095,8191,0,16384,49152,114688,249728,524287,1048575,2097151],[(0,[]),(1,[]),(2,[]),(3,[]),(4,[]),(5,[]),(6,[]),(7,[]),(8,[]),(9,[]),(10,[]),(14,[]),(15,[]),(16,[]),(17,[]),(11,[4,12,14]),(12,[]),(13,[]),(18,[4]),(19,[]),(20,[]),(21,[])])),(15,([0,0,3,7,0,16,48,112,240,511,1023,0,2048,0,8192,31216,65535,131071],[(0,[]),(1,[]),(2,[]),(3,[]),(4,[]),(5,[]),(6,[]),(7,[]),(11,[]),(12,[]),(13,[]),(14,[]),(8,[9]),(9,[]),(10,[]),(15,[]),(16,[]),(17,[])])),(7,([0,0,3,7,0,16,63,127,0,256,768,1792,3840,8191,16383,0,32768,98304,229376,499456,1048575,2097151,0,4194304,0,16777216,63938304,134217727,0,536870911,1073741823,2147483647],[(0,[]),(1,[]),(2,[]),(3,[]),(4,[]),(5,[]),(6,[]),(7,[]),(8,[]),(9,[]),(10,[]),(11,[]),(15,[]),(16,[]),(17,[]),(18,[]),(22,[]),(23,[]),(24,[]),(25,[]),(28,[]),(12,[5,13,15,17]),(13,[]),(14,[]),(19,[5,17]),(20,[]),(21,[]),(26,[5]),(27,[]),(29,[]),(30,[]),(31,[])]))],glob := globs,fresh := false } Go.Proofs.Tryd.f45 = some ir45 := by kernel_rfl
def ir46 : IFn := ⟨22,[.tmp 2 false],
.seq (.reg [⟨some 2,none,.mv (.cst (.int .i64 0))⟩])
(.seq (.reg [⟨some 5,none,.mv (.tmp 0)⟩,
⟨some 6,none,.len .i (.tmp 5)⟩,
⟨some 3,none,.mv (.tmp 6)⟩])
(.seq (.seq (.reg [⟨some 4,none,.mv (.cst (.int .i64 0))⟩])
(.block 0
(.loop [0,3,4]
(.seq (.seq (.reg [⟨some 7,none,.mv (.tmp 4)⟩,
⟨some 8,none,.mv (.tmp 0)⟩,
⟨some 9,none,.len .i (.tmp 8)⟩,
⟨some 10,none,.bin .lss .plain (.tmp 7) (.tmp 9)⟩])
(.cond (.tmp 10)
(.skip)
(.brk 0)))
(.seq (.block 1
(.reg [⟨some 13,none,.mv (.tmp 3)⟩,
⟨some 14,none,.mv (.tmp 0)⟩,
⟨some 15,none,.mv (.tmp 4)⟩,
⟨some 16,none,.idxS (.tmp 14) (.tmp 15) 5⟩,
⟨some 17,none,.fad (.tmp 16) 4⟩,
⟨some 18,none,.load (.tmp 17) 1 false⟩,
⟨some 19,none,.call 46 [(.tmp 18)]⟩,
⟨some 20,none,.bin .add .plain (.tmp 13) (.tmp 19)⟩,
⟨some 3,none,.mv (.tmp 20)⟩]))
(.reg [⟨some 11,none,.mv (.tmp 4)⟩,
⟨some 12,none,.bin .add .plain (.tmp 11) (.cst (.int .i64 1))⟩,
⟨some 4,none,.mv (.tmp 12)⟩]))))))
(.seq (.reg [⟨some 21,none,.mv (.tmp 3)⟩,
⟨some 2,none,.mv (.tmp 21)⟩])
(.ret))))⟩
theorem tr46 : trF Go.Proofs.Tryd.prog { obj := [],bare := [],loops := [[0,3,4]],draws := [],glob := globs,fresh := false } Go.Proofs.Tryd.f46 = some ir46 := by kernel_rfl
def ir47 : IFn := ⟨15,[],
.seq (.seq (.reg [⟨some 2,none,.mv (.tmp 0)⟩,
⟨some 3,none,.nilc (.tmp 2)⟩,
⟨some 4,none,.fad (.tmp 3) 5⟩,
⟨some 5,none,.load (.tmp 4) 1 false⟩,
⟨some 6,none,.bin .geq .plain (.tmp 5) (.cst (.int .i64 10000))⟩])
(.cond (.tmp 6)
(.reg [⟨some 7,none,.call 36 [(.cst (.int .i64 2))]⟩])
(.skip)))
(.reg [⟨some 8,none,.mv (.tmp 0)⟩,
⟨some 9,none,.nilc (.tmp 8)⟩,
⟨some 10,none,.fad (.tmp 9) 5⟩,
⟨some 11,none,.load (.tmp 10) 1 false⟩,
⟨some 12,none,.bin .add .plain (.tmp 11) (.cst (.int .i64 1))⟩,
⟨some 13,none,.nilc (.tmp 8)⟩,
⟨some 14,none,.fad (.tmp 13) 5⟩,
⟨none,none,.store (.tmp 14) (.tmp 12) 1⟩])⟩
theorem tr47 : trF Go.Proofs.Tryd.prog { obj := [],bare := [],loops := [],draws := [],glob := globs,fresh := false } Go.Proofs.Tryd.f47 = some ir47 := by kernel_rfl
def ir48 : IFn := ⟨101,[],
.seq (.reg [⟨some 4,none,.box (.tmp 1) false⟩])
(.seq (.reg [⟨some 9,none,.fad (.tmp 4) 0⟩,
⟨some 10,none,.load (.tmp 9) 1 false⟩])
(.block 0
(.seq (.reg [⟨some 12,none,.bin .eql .plain (.tmp 10) (.cst (.int .i64 1))⟩,
⟨some 11,none,.mv (.tmp 12)⟩])
(.cond (.tmp 11)
(.seq (.seq (.reg [⟨some 13,none,.mv (.tmp 0)⟩,
⟨some 14,none,.fad (.tmp 4) 1⟩,
⟨some 15,none,.load (.tmp 14) 1 false⟩,
⟨some 16,none,.call 35 [(.tmp 13),(.tmp 15)]⟩])
(.cond (.tmp 16)
(.reg [⟨some 17,none,.call 36 [(.cst (.int .i64 4))]⟩])
(.skip)))
(.draw [(⟨some 18,none,.mv (.tmp 0)⟩,0,[]),
(⟨some 19,none,.nilc (.tmp 18)⟩,1,[]),
(⟨some 20,none,.fad (.tmp 19) 2⟩,2,[]),
(⟨some 21,none,.load (.tmp 20) 1 false⟩,3,[]),
(⟨some 22,none,.fad (.tmp 4) 1⟩,4,[]),
(⟨some 23,none,.load (.tmp 22) 1 false⟩,5,[]),
(⟨some 24,none,.mv (.tmp 2)⟩,6,[]),
(⟨some 25,none,.idxS (.tmp 24) (.cst (.int .i64 0)) 4⟩,7,[]),
(⟨some 26,none,.fad (.tmp 25) 0⟩,8,[]),
(⟨some 27,none,.load (.tmp 26) 1 false⟩,9,[]),
(⟨some 28,none,.mv (.tmp 2)⟩,10,[]),
(⟨some 29,none,.idxS (.tmp 28) (.cst (.int .i64 0)) 4⟩,11,[]),
(⟨some 30,none,.fad (.tmp 29) 1⟩,12,[]),
(⟨some 31,none,.load (.tmp 30) 1 false⟩,13,[]),
(⟨some 32,none,.bld [(.int .i64 0),(.int .i64 0),(.bool false),(.int .u64 0)] [(0,1,(.tmp 27)),(1,1,(.tmp 31))]⟩,14,[]),
(⟨none,none,.mup .s (.tmp 21) (.tmp 23) (.tmp 32)⟩,15,[])]))
(.seq (.reg [⟨some 34,none,.bin .eql .plain (.tmp 10) (.cst (.int .i64 2))⟩,
⟨some 33,none,.mv (.tmp 34)⟩])
(.cond (.tmp 33)
(.seq (.draw [(⟨some 36,none,.mv (.tmp 0)⟩,0,[]),
(⟨some 37,none,.nilc (.tmp 36)⟩,1,[]),
(⟨some 38,none,.fad (.tmp 37) 1⟩,2,[]),
(⟨some 39,none,.load (.tmp 38) 1 false⟩,3,[]),
(⟨some 40,none,.fad (.tmp 4) 1⟩,4,[]),
(⟨some 41,none,.load (.tmp 40) 1 false⟩,5,[]),
(⟨some 42,none,.lkp .s (.tmp 39) (.tmp 41) (.int .i64 0) true⟩,6,[]),
(⟨some 35,none,.mv (.tmp 42)⟩,7,[]),
(⟨some 43,none,.ext (.tmp 35) 0⟩,8,[]),
(⟨some 44,none,.ext (.tmp 35) 1⟩,9,[]),
(⟨some 6,none,.mv (.tmp 43)⟩,10,[]),
(⟨some 7,none,.mv (.tmp 44)⟩,11,[])])
(.seq (.seq (.reg [⟨some 45,none,.mv (.tmp 7)⟩,
⟨some 46,none,.un .not (.tmp 45)⟩])
(.cond (.tmp 46)
(.reg [⟨some 47,none,.call 36 [(.cst (.int .i64 4))]⟩])
(.skip)))
(.seq (.reg [⟨some 48,none,.mv (.tmp 2)⟩,
⟨some 49,none,.idxS (.tmp 48) (.cst (.int .i64 0)) 4⟩,
⟨some 50,none,.load (.tmp 49) 4 true⟩,
⟨some 51,none,.mv (.tmp 6)⟩,
⟨some 52,none,.call 55 [(.tmp 50),(.tmp 51)]⟩,
⟨some 8,none,.mv (.tmp 52)⟩])
(.seq (.reg [⟨some 53,none,.mv (.tmp 2)⟩,
⟨some 54,none,.idxS (.tmp 53) (.cst (.int .i64 1)) 4⟩,
⟨some 55,none,.load (.tmp 54) 4 true⟩,
⟨some 56,none,.call 56 [(.tmp 55),(.cst (.int .i64 1))]⟩])
(.draw [(⟨some 57,none,.mv (.tmp 0)⟩,0,[]),
(⟨some 58,none,.nilc (.tmp 57)⟩,1,[]),
(⟨some 59,none,.fad (.tmp 58) 3⟩,2,[]),
(⟨some 60,none,.load (.tmp 59) 1 false⟩,3,[]),
(⟨some 61,none,.fad (.tmp 4) 1⟩,4,[]),
(⟨some 62,none,.load (.tmp 61) 1 false⟩,5,[]),
(⟨some 63,none,.lkp .s (.tmp 60) (.tmp 62) (.vec [] .full) false⟩,6,[]),
(⟨some 64,none,.mv (.tmp 8)⟩,7,[]),
(⟨some 65,none,.mv (.tmp 2)⟩,8,[]),
(⟨some 66,none,.idxS (.tmp 65) (.cst (.int .i64 1)) 4⟩,9,[]),
(⟨some 67,none,.fad (.tmp 66) 1⟩,10,[]),
(⟨some 68,none,.load (.tmp 67) 1 false⟩,11,[]),
(⟨some 69,none,.idxS (.tmp 63) (.tmp 64) 1⟩,12,[]),
(⟨none,none,.store (.tmp 69) (.tmp 68) 1⟩,13,[])])))))
(.seq (.reg [⟨some 71,none,.bin .eql .plain (.tmp 10) (.cst (.int .i64 3))⟩,
⟨some 70,none,.mv (.tmp 71)⟩])
(.cond (.tmp 70)
(.seq (.reg [⟨some 72,none,.mv (.tmp 2)⟩,
⟨some 73,none,.idxS (.tmp 72) (.cst (.int .i64 0)) 4⟩,
⟨some 74,none,.load (.tmp 73) 4 true⟩,
⟨some 75,none,.call 56 [(.tmp 74),(.cst (.int .i64 2))]⟩])
(.reg [⟨some 76,none,.mv (.tmp 0)⟩,
⟨some 77,none,.fad (.tmp 4) 3⟩,
⟨some 78,none,.load (.tmp 77) 1 false⟩,
⟨some 79,none,.fad (.tmp 4) 4⟩,
⟨some 80,none,.load (.tmp 79) 1 false⟩,
⟨some 81,none,.call 57 [(.tmp 76),(.tmp 78),(.tmp 80)]⟩]))
(.seq (.reg [⟨some 83,none,.bin .eql .plain (.tmp 10) (.cst (.int .i64 4))⟩,
⟨some 82,none,.mv (.tmp 83)⟩])
(.cond (.tmp 82)
(.draw [(⟨some 84,none,.mv (.tmp 0)⟩,0,[]),
(⟨some 85,none,.load (.tmp 4) 5 true⟩,1,[]),
(⟨some 86,none,.mv (.tmp 2)⟩,2,[]),
(⟨some 87,none,.idxS (.tmp 86) (.cst (.int .i64 0)) 4⟩,3,[]),
(⟨some 88,none,.load (.tmp 87) 4 true⟩,4,[]),
(⟨some 89,none,.mv (.tmp 2)⟩,5,[]),
(⟨some 90,none,.idxS (.tmp 89) (.cst (.int .i64 1)) 4⟩,6,[]),
(⟨some 91,none,.load (.tmp 90) 4 true⟩,7,[]),
(⟨some 92,none,.call 58 [(.tmp 84),(.tmp 85),(.tmp 88),(.tmp 91)]⟩,8,[])])
(.seq (.reg [⟨some 94,none,.bin .eql .plain (.tmp 10) (.cst (.int .i64 5))⟩,
⟨some 93,none,.mv (.tmp 94)⟩])
(.cond (.tmp 93)
(.seq (.reg [⟨some 95,none,.mv (.tmp 0)⟩,
⟨some 96,none,.nilc (.tmp 95)⟩,
⟨some 97,none,.fad (.tmp 96) 7⟩,
⟨some 98,none,.load (.tmp 97) 1 false⟩,
⟨some 99,none,.bin .gtr .plain (.tmp 98) (.cst (.int .i64 0))⟩])
(.cond (.tmp 99)
(.reg [⟨some 100,none,.call 36 [(.cst (.int .i64 1))]⟩])
(.skip)))
(.skip)))))))))))))⟩
theorem tr48 : trF Go.Proofs.Tryd.prog { obj := [],bare := [],loops := [],draws := [(5,([0,1,3,7,0,16,0,64,192,448,0,1024,3072,7168,16320,32767],[(0,[]),(1,[]),(2,[]),(3,[]),(4,[]),(5,[]),(6,[]),(7,[]),(8,[]),(9,[]),(10,[]),(11,[]),(12,[]),(13,[]),(14,[]),(15,[])])),(7,([0,1,3,7,0,16,63,127,255,255,511,2047],[(0,[]),(1,[]),(2,[]),(3,[]),(4,[]),(5,[]),(6,[]),(7,[]),(8,[]),(9,[]),(10,[]),(11,[])])),(12,([0,1,3,7,0,16,63,0,0,256,768,1792,4095,8191],[(0,[]),(1,[]),(2,[]),(3,[]),(4,[]),(5,[]),(6,[]),(7,[]),(8,[]),(9,[]),(10,[]),(11,[]),(12,[]),(13,[])])),(17,([0,0,0,4,12,0,32,96,255],[(0,[]),(1,[]),(2,[]),(3,[]),(4,[]),(5,[]),(6,[]),(7,[]),(8,[])]))],glob := globs,fresh := false } Go.Proofs.Tryd.f48 = some ir48 := by kernel_rfl
def ir49 : IFn := ⟨22,[.tmp 4 false],
.seq (.reg [⟨some 4,none,.mv (.cst (.vec [] .full))⟩])
(.seq (.reg [⟨some 5,none,.mv (.cst (.vec [] .full))⟩])
(.seq (.seq (.reg [⟨some 8,none,.mv (.tmp 1)⟩,
⟨some 9,none,.len .i (.tmp 8)⟩,
⟨some 10,none,.mv (.cst (.int .i64 0))⟩])
(.block 0
(.loop [0,5,8,9,10]
(.seq (.reg [⟨some 11,none,.bin .lss .plain (.tmp 10) (.tmp 9)⟩])
(.seq (.cond (.tmp 11)
(.skip)
(.brk 0))
(.seq (.block 1
(.seq (.reg [⟨some 12,none,.idxS (.tmp 8) (.tmp 10) 5⟩,
⟨some 13,none,.load (.tmp 12) 5 true⟩,
⟨some 7,none,.allocz [(.int .i64 0),(.int .i64 0),(.int .u64 0),(.str ⟨#[]⟩),(.vec [] .full)] false⟩,
⟨none,none,.store (.tmp 7) (.tmp 13) 5⟩])
(.reg [⟨some 14,none,.mv (.tmp 5)⟩,
⟨some 15,none,.mv (.tmp 0)⟩,
⟨some 16,none,.load (.tmp 7) 5 true⟩,
⟨some 17,none,.call 59 [(.tmp 15),(.tmp 16)]⟩,
⟨some 18,none,.bsl 1 4 true [(.int .i64 0),(.int .i64 0),(.bool false),(.int .u64 0)] [(0,4,(.tmp 17))]⟩,
⟨some 19,none,.app (.tmp 14) (.tmp 18) 4 32 true false⟩,
⟨some 5,none,.mv (.tmp 19)⟩])))
(.reg [⟨some 20,none,.bin .add .plain (.tmp 10) (.cst (.int .i64 1))⟩,
⟨some 10,none,.mv (.tmp 20)⟩])))))))
(.seq (.reg [⟨some 21,none,.mv (.tmp 5)⟩,
⟨some 4,none,.mv (.tmp 21)⟩])
(.ret))))⟩
theorem tr49 : trF Go.Proofs.Tryd.prog { obj := [],bare := [],loops := [[0,5,8,9,10]],draws := [],glob := globs,fresh := false } Go.Proofs.Tryd.f49 = some ir49 := by kernel_rfl
def ir50 : IFn := ⟨126,[.tmp 4 false],
.seq (.reg [⟨some 3,none,.box (.tmp 1) false⟩,
⟨some 4,none,.mv (.cst (.int .i64 0))⟩])
(.seq (.reg [⟨some 10,none,.mv (.tmp 0)⟩,
⟨some 11,none,.call 60 [(.tmp 10)]⟩,
⟨some 5,none,.mv (.tmp 11)⟩])
(.seq (.seq (.reg [⟨some 12,none,.mv (.tmp 5)⟩,
⟨some 13,none,.bin .neq .plain (.tmp 12) (.cst (.int .i64 0))⟩])
(.cond (.tmp 13)
(.seq (.reg [⟨some 14,none,.mv (.tmp 5)⟩,
⟨some 4,none,.mv (.tmp 14)⟩])
(.ret))
(.skip)))
(.seq (.reg [⟨some 16,none,.mv (.tmp 0)⟩,
⟨some 17,none,.fad (.tmp 3) 2⟩,
⟨some 18,none,.load (.tmp 17) 1 false⟩,
⟨some 19,none,.call 61 [(.tmp 16),(.tmp 18)]⟩,
⟨some 15,none,.mv (.tmp 19)⟩,
⟨some 20,none,.ext (.tmp 15) 0⟩,
⟨some 21,none,.ext (.tmp 15) 1⟩,
⟨some 6,none,.mv (.tmp 20)⟩,
⟨some 5,none,.mv (.tmp 21)⟩])
(.seq (.seq (.reg [⟨some 22,none,.mv (.tmp 5)⟩,
⟨some 23,none,.bin .neq .plain (.tmp 22) (.cst (.int .i64 0))⟩])
(.cond (.tmp 23)
(.seq (.reg [⟨some 24,none,.mv (.tmp 5)⟩,
⟨some 4,none,.mv (.tmp 24)⟩])
(.ret))
(.skip)))
(.seq (.seq (.reg [⟨some 25,none,.fad (.tmp 3) 0⟩,
⟨some 26,none,.load (.tmp 25) 1 false⟩])
(.block 0
(.seq (.reg [⟨some 28,none,.bin .eql .plain (.tmp 26) (.cst (.int .i64 1))⟩,
⟨some 27,none,.mv (.tmp 28)⟩])
(.cond (.tmp 27)
(.seq (.seq (.reg [⟨some 29,none,.mv (.tmp 0)⟩,
⟨some 30,none,.fad (.tmp 3) 1⟩,
⟨some 31,none,.load (.tmp 30) 1 false⟩,
⟨some 32,none,.call 62 [(.tmp 29),(.tmp 31)]⟩])
(.cond (.tmp 32)
(.seq (.reg [⟨some 4,none,.mv (.cst (.int .i64 4))⟩])
(.ret))
(.skip)))
(.draw [(⟨some 33,none,.mv (.tmp 0)⟩,0,[]),
(⟨some 34,none,.mv (.tmp 0)⟩,1,[]),
(⟨some 35,none,.nilc (.tmp 34)⟩,2,[]),
(⟨some 36,none,.fad (.tmp 35) 3⟩,3,[]),
(⟨some 37,none,.load (.tmp 36) 1 false⟩,4,[]),
(⟨some 38,none,.fad (.tmp 3) 1⟩,5,[]),
(⟨some 39,none,.load (.tmp 38) 1 false⟩,6,[]),
(⟨some 41,none,.fad (.tmp 3) 1⟩,8,[]),
(⟨some 42,none,.load (.tmp 41) 1 false⟩,9,[]),
(⟨some 43,none,.mv (.tmp 6)⟩,10,[]),
(⟨some 44,none,.idxS (.tmp 43) (.cst (.int .i64 0)) 4⟩,11,[]),
(⟨some 45,none,.load (.tmp 44) 4 true⟩,12,[]),
(⟨some 40,none,.call 63 [(.tmp 37),(.tmp 39)]⟩,7,[8,11]),
(⟨some 46,none,.call 64 [(.tmp 45)]⟩,13,[8]),
(⟨some 47,none,.bld [(.str ⟨#[]⟩),(.int .i64 0),(.int .i64 0),(.bool false),(.int .u64 0)] [(0,1,(.tmp 42)),(1,4,(.tmp 46))]⟩,14,[]),
(⟨some 48,none,.bsl 1 5 true [(.str ⟨#[]⟩),(.int .i64 0),(.int .i64 0),(.bool false),(.int .u64 0)] [(0,5,(.tmp 47))]⟩,15,[]),
(⟨some 49,none,.app (.tmp 40) (.tmp 48) 5 48 true false⟩,16,[]),
(⟨some 50,none,.nilc (.tmp 33)⟩,17,[]),
(⟨some 51,none,.fad (.tmp 50) 3⟩,18,[]),
(⟨none,none,.store (.tmp 51) (.tmp 49) 1⟩,19,[])]))
(.seq (.reg [⟨some 53,none,.bin .eql .plain (.tmp 26) (.cst (.int .i64 2))⟩,
⟨some 52,none,.mv (.tmp 53)⟩])
(.cond (.tmp 52)
(.seq (.draw [(⟨some 54,none,.mv (.tmp 0)⟩,0,[]),
(⟨some 55,none,.nilc (.tmp 54)⟩,1,[]),
(⟨some 56,none,.fad (.tmp 55) 0⟩,2,[]),
(⟨some 57,none,.load (.tmp 56) 3 true⟩,3,[]),
(⟨some 58,none,.fad (.tmp 3) 1⟩,4,[]),
(⟨some 59,none,.load (.tmp 58) 1 false⟩,5,[]),
(⟨some 60,none,.call 65 [(.tmp 57),(.tmp 59)]⟩,6,[]),
(⟨some 7,none,.mv (.tmp 60)⟩,7,[])])
(.seq (.seq (.reg [⟨some 61,none,.mv (.tmp 7)⟩,
⟨some 62,none,.bin .lss .plain (.tmp 61) (.cst (.int .i64 0))⟩])
(.cond (.tmp 62)
(.seq (.reg [⟨some 4,none,.mv (.cst (.int .i64 4))⟩])
(.ret))
(.skip)))
(.seq (.draw [(⟨some 64,none,.mv (.tmp 6)⟩,0,[]),
(⟨some 65,none,.idxS (.tmp 64) (.cst (.int .i64 0)) 4⟩,1,[]),
(⟨some 66,none,.load (.tmp 65) 4 true⟩,2,[]),
(⟨some 67,none,.mv (.tmp 0)⟩,3,[]),
(⟨some 68,none,.nilc (.tmp 67)⟩,4,[]),
(⟨some 69,none,.fad (.tmp 68) 0⟩,5,[]),
(⟨some 70,none,.fad (.tmp 69) 1⟩,6,[]),
(⟨some 71,none,.load (.tmp 70) 1 false⟩,7,[]),
(⟨some 72,none,.mv (.tmp 7)⟩,8,[]),
(⟨some 73,none,.idxS (.tmp 71) (.tmp 72) 2⟩,9,[]),
(⟨some 74,none,.fad (.tmp 73) 1⟩,10,[]),
(⟨some 75,none,.load (.tmp 74) 1 false⟩,11,[]),
(⟨some 76,none,.call 66 [(.tmp 66),(.tmp 75)]⟩,12,[]),
(⟨some 63,none,.mv (.tmp 76)⟩,13,[]),
(⟨some 77,none,.ext (.tmp 63) 0⟩,14,[]),
(⟨some 78,none,.ext (.tmp 63) 1⟩,15,[]),
(⟨some 8,none,.mv (.tmp 77)⟩,16,[]),
(⟨some 9,none,.mv (.tmp 78)⟩,17,[])])
(.seq (.seq (.reg [⟨some 79,none,.mv (.tmp 9)⟩,
⟨some 80,none,.bin .neq .plain (.tmp 79) (.cst (.int .i64 0))⟩])
(.cond (.tmp 80)
(.seq (.reg [⟨some 81,none,.mv (.tmp 9)⟩,
⟨some 4,none,.mv (.tmp 81)⟩])
(.ret))
(.skip)))
(.seq (.seq (.reg [⟨some 82,none,.mv (.tmp 6)⟩,
⟨some 83,none,.idxS (.tmp 82) (.cst (.int .i64 1)) 4⟩,
⟨some 84,none,.fad (.tmp 83) 0⟩,
⟨some 85,none,.load (.tmp 84) 1 false⟩,
⟨some 86,none,.bin .neq .plain (.tmp 85) (.cst (.int .i64 1))⟩])
(.cond (.tmp 86)
(.seq (.reg [⟨some 4,none,.mv (.cst (.int .i64 5))⟩])
(.ret))
(.skip)))
(.draw [(⟨some 87,none,.mv (.tmp 0)⟩,0,[]),
(⟨some 88,none,.nilc (.tmp 87)⟩,1,[]),
(⟨some 89,none,.fad (.tmp 88) 5⟩,2,[]),
(⟨some 90,none,.load (.tmp 89) 1 false⟩,3,[]),
(⟨some 91,none,.mv (.tmp 7)⟩,4,[]),
(⟨some 92,none,.idxS (.tmp 90) (.tmp 91) 1⟩,5,[]),
(⟨some 93,none,.load (.tmp 92) 1 false⟩,6,[]),
(⟨some 94,none,.mv (.tmp 8)⟩,7,[]),
(⟨some 95,none,.mv (.tmp 6)⟩,8,[]),
(⟨some 96,none,.idxS (.tmp 95) (.cst (.int .i64 1)) 4⟩,9,[]),
(⟨some 97,none,.fad (.tmp 96) 1⟩,10,[]),
(⟨some 98,none,.load (.tmp 97) 1 false⟩,11,[]),
(⟨some 99,none,.idxS (.tmp 93) (.tmp 94) 1⟩,12,[]),
(⟨none,none,.store (.tmp 99) (.tmp 98) 1⟩,13,[])]))))))
(.seq (.reg [⟨some 101,none,.bin .eql .plain (.tmp 26) (.cst (.int .i64 3))⟩,
⟨some 100,none,.mv (.tmp 101)⟩])
(.cond (.tmp 100)
(.seq (.draw [(⟨some 102,none,.mv (.tmp 0)⟩,0,[]),
(⟨some 103,none,.load (.tmp 3) 5 true⟩,1,[]),
(⟨some 104,none,.mv (.tmp 6)⟩,2,[]),
(⟨some 105,none,.idxS (.tmp 104) (.cst (.int .i64 0)) 4⟩,3,[]),
(⟨some 106,none,.load (.tmp 105) 4 true⟩,4,[]),
(⟨some 107,none,.call 67 [(.tmp 102),(.tmp 103),(.tmp 106)]⟩,5,[]),
(⟨some 4,none,.mv (.tmp 107)⟩,6,[])])
(.ret))
(.seq (.reg [⟨some 109,none,.bin .eql .plain (.tmp 26) (.cst (.int .i64 4))⟩,
⟨some 108,none,.mv (.tmp 109)⟩])
(.cond (.tmp 108)
(.seq (.draw [(⟨some 110,none,.mv (.tmp 0)⟩,0,[]),
(⟨some 111,none,.load (.tmp 3) 5 true⟩,1,[]),
(⟨some 112,none,.mv (.tmp 6)⟩,2,[]),
(⟨some 113,none,.idxS (.tmp 112) (.cst (.int .i64 0)) 4⟩,3,[]),
(⟨some 114,none,.load (.tmp 113) 4 true⟩,4,[]),
(⟨some 115,none,.mv (.tmp 6)⟩,5,[]),
(⟨some 116,none,.idxS (.tmp 115) (.cst (.int .i64 1)) 4⟩,6,[]),
(⟨some 117,none,.load (.tmp 116) 4 true⟩,7,[]),
(⟨some 118,none,.call 68 [(.tmp 110),(.tmp 111),(.tmp 114),(.tmp 117)]⟩,8,[]),
(⟨some 4,none,.mv (.tmp 118)⟩,9,[])])
(.ret))
(.seq (.reg [⟨some 120,none,.bin .eql .plain (.tmp 26) (.cst (.int .i64 5))⟩,
⟨some 119,none,.mv (.tmp 120)⟩])
(.cond (.tmp 119)
(.seq (.reg [⟨some 121,none,.mv (.tmp 0)⟩,
⟨some 122,none,.nilc (.tmp 121)⟩,
⟨some 123,none,.fad (.tmp 122) 8⟩,
⟨some 124,none,.load (.tmp 123) 1 false⟩,
⟨some 125,none,.bin .gtr .plain (.tmp 124) (.cst (.int .i64 0))⟩])
(.cond (.tmp 125)
(.seq (.reg [⟨some 4,none,.mv (.cst (.int .i64 1))⟩])
(.ret))
(.skip)))
(.skip)))))))))))))
(.seq (.reg [⟨some 4,none,.mv (.cst (.int .i64 0))⟩])
(.ret)))))))⟩
theorem tr50 : trF Go.Proofs.Tryd.prog { obj := [],bare := [],loops := [],draws := [(11,([0,0,2,6,14,0,32,126,0,256,0,1024,3072,7422,16382,32766,65534,131071,262143,524287],[(0,[]),(1,[]),(2,[]),(3,[]),(4,[]),(5,[]),(6,[]),(8,[]),(9,[]),(10,[]),(11,[]),(12,[]),(7,[8,11]),(13,[8]),(14,[]),(15,[]),(16,[]),(17,[]),(18,[]),(19,[])])),(13,([0,1,3,7,0,16,63,127],[(0,[]),(1,[]),(2,[]),(3,[]),(4,[]),(5,[]),(6,[]),(7,[])])),(16,([0,1,3,0,8,24,56,120,0,504,1016,2040,4095,8191,16383,16383,32767,131071],[(0,[]),(1,[]),(2,[]),(3,[]),(4,[]),(5,[]),(6,[]),(7,[]),(8,[]),(9,[]),(10,[]),(11,[]),(12,[]),(13,[]),(14,[]),(15,[]),(16,[]),(17,[])])),(21,([0,1,3,7,0,31,63,0,0,256,768,1792,4095,8191],[(0,[]),(1,[]),(2,[]),(3,[]),(4,[]),(5,[]),(6,[]),(7,[]),(8,[]),(9,[]),(10,[]),(11,[]),(12,[]),(13,[])])),(23,([0,0,0,4,12,31,63],[(0,[]),(1,[]),(2,[]),(3,[]),(4,[]),(5,[]),(6,[])])),(25,([0,0,0,4,12,0,32,96,255,511],[(0,[]),(1,[]),(2,[]),(3,[]),(4,[]),(5,[]),(6,[]),(7,[]),(8,[]),(9,[])]))],glob := globs,fresh := false } Go.Proofs.Tryd.f50 = some ir50 := by kernel_rfl
def ir51 : IFn := ⟨9,[.tmp 2 false],
.seq (.reg [⟨some 2,none,.mv (.cst (.bool false))⟩])
(.seq (.reg [⟨some 3,none,.mv (.tmp 0)⟩,
⟨some 4,none,.bin .geq .plain (.tmp 3) (.cst (.int .u8 48))⟩,
⟨some 5,none,.mv (.tmp 4)⟩,
⟨some 6,some (5,true),.mv (.tmp 0)⟩,
⟨some 7,some (5,true),.bin .leq .plain (.tmp 6) (.cst (.int .u8 57))⟩,
⟨some 8,none,.pick (.tmp 5) (.tmp 7) (.cst (.bool false))⟩,
⟨some 2,none,.mv (.tmp 8)⟩])
(.ret))⟩
theorem tr51 : trF Go.Proofs.Tryd.prog { obj := [],bare := [],loops := [],draws := [],glob := globs,fresh := false } Go.Proofs.Tryd.f51 = some ir51 := by kernel_rfl
def ir52 : IFn := ⟨93,[.tmp 4 false],
.seq (.reg [⟨some 2,none,.box (.tmp 0) false⟩,
⟨some 4,none,.mv (.cst (.bool false))⟩])
(.seq (.seq (.draw [(⟨some 7,none,.mv (.tmp 1)⟩,0,[]),
(⟨some 8,none,.bin .gtr .plain (.tmp 7) (.cst (.int .i64 24))⟩,1,[]),
(⟨some 9,none,.mv (.tmp 8)⟩,2,[]),
(⟨some 10,some (9,false),.load (.tmp 2) 5 true⟩,3,[]),
(⟨some 12,some (9,false),.fad (.tmp 2) 4⟩,5,[]),
(⟨some 13,some (9,false),.load (.tmp 12) 1 false⟩,6,[]),
(⟨some 14,some (9,false),.len .i (.tmp 13)⟩,7,[]),
(⟨some 11,some (9,false),.call 69 [(.tmp 10)]⟩,4,[5,6]),
(⟨some 15,some (9,false),.bin .neq .plain (.tmp 11) (.tmp 14)⟩,8,[]),
(⟨some 16,none,.pick (.tmp 9) (.cst (.bool true)) (.tmp 15)⟩,9,[])])
(.cond (.tmp 16)
(.seq (.reg [⟨some 4,none,.mv (.cst (.bool false))⟩])
(.ret))
(.skip)))
(.seq (.reg [⟨some 17,none,.fad (.tmp 2) 0⟩,
⟨some 18,none,.load (.tmp 17) 1 false⟩,
⟨some 19,none,.bin .eql .plain (.tmp 18) (.cst (.int .i64 2))⟩,
⟨some 20,none,.mv (.tmp 19)⟩,
⟨some 21,some (20,false),.fad (.tmp 2) 0⟩,
⟨some 22,some (20,false),.load (.tmp 21) 1 false⟩,
⟨some 23,some (20,false),.bin .eql .plain (.tmp 22) (.cst (.int .i64 3))⟩,
⟨some 24,none,.pick (.tmp 20) (.cst (.bool true)) (.tmp 23)⟩,
⟨some 5,none,.mv (.tmp 24)⟩])
(.seq (.seq (.reg [⟨some 25,none,.mv (.tmp 5)⟩,
⟨some 26,none,.mv (.tmp 25)⟩,
⟨some 27,some (26,true),.fad (.tmp 2) 3⟩,
⟨some 28,some (26,true),.load (.tmp 27) 1 false⟩,
⟨some 29,some (26,true),.call 30 [(.tmp 28)]⟩,
⟨some 30,some (26,true),.un .not (.tmp 29)⟩,
⟨some 31,none,.pick (.tmp 26) (.tmp 30) (.cst (.bool false))⟩,
⟨some 32,none,.mv (.tmp 31)⟩,
⟨some 33,some (32,false),.mv (.tmp 5)⟩,
⟨some 34,some (32,false),.un .not (.tmp 33)⟩,
⟨some 35,some (32,false),.mv (.tmp 34)⟩,
⟨some 36,some (35,true),.fad (.tmp 2) 3⟩,
⟨some 37,some (35,true),.load (.tmp 36) 1 false⟩,
⟨some 38,some (35,true),.bin .neq .plain (.tmp 37) (.cst (.str ⟨#[]⟩))⟩,
⟨some 39,some (32,false),.pick (.tmp 35) (.tmp 38) (.cst (.bool false))⟩,
⟨some 40,none,.pick (.tmp 32) (.cst (.bool true)) (.tmp 39)⟩])
(.cond (.tmp 40)
(.seq (.reg [⟨some 4,none,.mv (.cst (.bool false))⟩])
(.ret))
(.skip)))
(.seq (.seq (.reg [⟨some 41,none,.fad (.tmp 2) 0⟩,
⟨some 42,none,.load (.tmp 41) 1 false⟩,
⟨some 43,none,.bin .eql .plain (.tmp 42) (.cst (.int .i64 4))⟩,
⟨some 44,none,.mv (.tmp 43)⟩,
⟨some 45,some (44,true),.fad (.tmp 2) 1⟩,
⟨some 46,some (44,true),.load (.tmp 45) 1 false⟩,
⟨some 47,some (44,true),.bin .lss .plain (.tmp 46) (.cst (.int .i64 1))⟩,
⟨some 48,some (44,true),.mv (.tmp 47)⟩,
⟨some 49,some (48,false),.fad (.tmp 2) 1⟩,
⟨some 50,some (48,false),.load (.tmp 49) 1 false⟩,
⟨some 51,some (48,false),.bin .gtr .plain (.tmp 50) (.cst (.int .i64 7))⟩,
⟨some 52,some (44,true),.pick (.tmp 48) (.cst (.bool true)) (.tmp 51)⟩,
⟨some 53,none,.pick (.tmp 44) (.tmp 52) (.cst (.bool false))⟩,
⟨some 54,none,.mv (.tmp 53)⟩,
⟨some 55,some (54,false),.fad (.tmp 2) 0⟩,
⟨some 56,some (54,false),.load (.tmp 55) 1 false⟩,
⟨some 57,some (54,false),.bin .neq .plain (.tmp 56) (.cst (.int .i64 4))⟩,
⟨some 58,some (54,false),.mv (.tmp 57)⟩,
⟨some 59,some (58,true),.fad (.tmp 2) 1⟩,
⟨some 60,some (58,true),.load (.tmp 59) 1 false⟩,
⟨some 61,some (58,true),.bin .neq .plain (.tmp 60) (.cst (.int .i64 0))⟩,
⟨some 62,some (54,false),.pick (.tmp 58) (.tmp 61) (.cst (.bool false))⟩,
⟨some 63,none,.pick (.tmp 54) (.cst (.bool true)) (.tmp 62)⟩])
(.cond (.tmp 63)
(.seq (.reg [⟨some 4,none,.mv (.cst (.bool false))⟩])
(.ret))
(.skip)))
(.seq (.seq (.reg [⟨some 64,none,.fad (.tmp 2) 2⟩,
⟨some 65,none,.load (.tmp 64) 1 false⟩,
⟨some 66,none,.bin .gtr .plain (.tmp 65) (.cst (.int .u64 1152921504606846975))⟩,
⟨some 67,none,.mv (.tmp 66)⟩,
⟨some 68,some (67,false),.fad (.tmp 2) 0⟩,
⟨some 69,some (67,false),.load (.tmp 68) 1 false⟩,
⟨some 70,some (67,false),.bin .neq .plain (.tmp 69) (.cst (.int .i64 1))⟩,
⟨some 71,some (67,false),.mv (.tmp 70)⟩,
⟨some 72,some (71,true),.fad (.tmp 2) 2⟩,
⟨some 73,some (71,true),.load (.tmp 72) 1 false⟩,
⟨some 74,some (71,true),.bin .neq .plain (.tmp 73) (.cst (.int .u64 0))⟩,
⟨some 75,some (67,false),.pick (.tmp 71) (.tmp 74) (.cst (.bool false))⟩,
⟨some 76,none,.pick (.tmp 67) (.cst (.bool true)) (.tmp 75)⟩])
(.cond (.tmp 76)
(.seq (.reg [⟨some 4,none,.mv (.cst (.bool false))⟩])
(.ret))
(.skip)))
(.seq (.seq (.reg [⟨some 6,none,.mv (.cst (.int .i64 0))⟩])
(.block 0
(.loop [1,2,6]
(.seq (.seq (.reg [⟨some 77,none,.mv (.tmp 6)⟩,
⟨some 78,none,.fad (.tmp 2) 4⟩,
⟨some 79,none,.load (.tmp 78) 1 false⟩,
⟨some 80,none,.len .i (.tmp 79)⟩,
⟨some 81,none,.bin .lss .plain (.tmp 77) (.tmp 80)⟩])
(.cond (.tmp 81)
(.skip)
(.brk 0)))
(.seq (.block 1
(.seq (.reg [⟨some 84,none,.fad (.tmp 2) 4⟩,
⟨some 85,none,.load (.tmp 84) 1 false⟩,
⟨some 86,none,.mv (.tmp 6)⟩,
⟨some 87,none,.idxS (.tmp 85) (.tmp 86) 5⟩,
⟨some 88,none,.load (.tmp 87) 5 true⟩,
⟨some 89,none,.mv (.tmp 1)⟩,
⟨some 90,none,.bin .add .plain (.tmp 89) (.cst (.int .i64 1))⟩,
⟨some 91,none,.call 52 [(.tmp 88),(.tmp 90)]⟩,
⟨some 92,none,.un .not (.tmp 91)⟩])
(.cond (.tmp 92)
(.seq (.reg [⟨some 4,none,.mv (.cst (.bool false))⟩])
(.ret))
(.skip))))
(.reg [⟨some 82,none,.mv (.tmp 6)⟩,
⟨some 83,none,.bin .add .plain (.tmp 82) (.cst (.int .i64 1))⟩,
⟨some 6,none,.mv (.tmp 83)⟩]))))))
(.seq (.reg [⟨some 4,none,.mv (.cst (.bool true))⟩])
(.ret))))))))⟩
theorem tr52 : trF Go.Proofs.Tryd.prog { obj := [],bare := [],loops := [[1,2,6]],draws := [(1,([0,1,3,7,15,7,39,103,255,511],[(0,[]),(1,[]),(2,[]),(3,[]),(5,[]),(6,[]),(7,[]),(4,[5,6]),(8,[]),(9,[])]))],glob := globs,fresh := false } Go.Proofs.Tryd.f52 = some ir52 := by kernel_rfl
def ir53 : IFn := ⟨23,[.tmp 2 false],
.seq (.reg [⟨some 2,none,.mv (.cst (.str ⟨#[]⟩))⟩])
(.seq (.reg [⟨some 4,none,.mv (.tmp 0)⟩,
⟨some 5,none,.bin .rem .plain (.tmp 4) (.cst (.int .u64 10))⟩,
⟨some 6,none,.bin .add .plain (.cst (.int .u64 48)) (.tmp 5)⟩,
⟨some 7,none,.cvI .u8 (.tmp 6)⟩,
⟨some 8,none,.bsl 1 1 false [(.int .u8 0)] [(0,1,(.tmp 7))]⟩,
⟨some 9,none,.cvB (.tmp 8)⟩,
⟨some 3,none,.mv (.tmp 9)⟩])
(.seq (.block 0
(.loop [0,3]
(.seq (.seq (.reg [⟨some 10,none,.mv (.tmp 0)⟩,
⟨some 11,none,.bin .geq .plain (.tmp 10) (.cst (.int .u64 10))⟩])
(.cond (.tmp 11)
(.skip)
(.brk 0)))
(.block 1
(.seq (.reg [⟨some 12,none,.mv (.tmp 0)⟩,
⟨some 13,none,.bin .quo .plain (.tmp 12) (.cst (.int .u64 10))⟩,
⟨some 0,none,.mv (.tmp 13)⟩])
(.reg [⟨some 14,none,.mv (.tmp 0)⟩,
⟨some 15,none,.bin .rem .plain (.tmp 14) (.cst (.int .u64 10))⟩,
⟨some 16,none,.bin .add .plain (.cst (.int .u64 48)) (.tmp 15)⟩,
⟨some 17,none,.cvI .u8 (.tmp 16)⟩,
⟨some 18,none,.bsl 1 1 false [(.int .u8 0)] [(0,1,(.tmp 17))]⟩,
⟨some 19,none,.cvB (.tmp 18)⟩,
⟨some 20,none,.mv (.tmp 3)⟩,
⟨some 21,none,.bin .add .plain (.tmp 19) (.tmp 20)⟩,
⟨some 3,none,.mv (.tmp 21)⟩]))))))
(.seq (.reg [⟨some 22,none,.mv (.tmp 3)⟩,
⟨some 2,none,.mv (.tmp 22)⟩])
(.ret))))⟩
theorem tr53 : trF Go.Proofs.Tryd.prog { obj := [],bare := [],loops := [[0,3]],draws := [],glob := globs,fresh := false } Go.Proofs.Tryd.f53 = some ir53 := by kernel_rfl
def ir54 : IFn := ⟨78,[.tmp 2 false],
.seq (.reg [⟨some 1,none,.box (.tmp 0) false⟩,
⟨some 2,none,.mv (.cst (.str ⟨#[]⟩))⟩])
(.seq (.seq (.reg [⟨some 4,none,.fad (.tmp 1) 0⟩,
⟨some 5,none,.load (.tmp 4) 1 false⟩])
(.block 0
(.seq (.reg [⟨some 7,none,.bin .eql .plain (.tmp 5) (.cst (.int .i64 1))⟩,
⟨some 6,none,.mv (.tmp 7)⟩])
(.cond (.tmp 6)
(.seq (.reg [⟨some 8,none,.fad (.tmp 1) 2⟩,
⟨some 9,none,.load (.tmp 8) 1 false⟩,
⟨some 10,none,.call 53 [(.tmp 9)]⟩,
⟨some 2,none,.mv (.tmp 10)⟩])
(.ret))
(.seq (.reg [⟨some 12,none,.bin .eql .plain (.tmp 5) (.cst (.int .i64 2))⟩,
⟨some 11,none,.mv (.tmp 12)⟩])
(.cond (.tmp 11)
(.seq (.reg [⟨some 13,none,.fad (.tmp 1) 3⟩,
⟨some 14,none,.load (.tmp 13) 1 false⟩,
⟨some 2,none,.mv (.tmp 14)⟩])
(.ret))
(.seq (.reg [⟨some 16,none,.bin .eql .plain (.tmp 5) (.cst (.int .i64 3))⟩,
⟨some 15,none,.mv (.tmp 16)⟩])
(.cond (.tmp 15)
(.seq (.draw [(⟨some 17,none,.fad (.tmp 1) 3⟩,0,[]),
(⟨some 18,none,.load (.tmp 17) 1 false⟩,1,[]),
(⟨some 19,none,.bin .add .plain (.tmp 18) (.cst (.str ⟨#[91]⟩))⟩,2,[]),
(⟨some 20,none,.fad (.tmp 1) 4⟩,3,[]),
(⟨some 21,none,.load (.tmp 20) 1 false⟩,4,[]),
(⟨some 22,none,.idxS (.tmp 21) (.cst (.int .i64 0)) 5⟩,5,[]),
(⟨some 23,none,.load (.tmp 22) 5 true⟩,6,[]),
(⟨some 24,none,.call 54 [(.tmp 23)]⟩,7,[1]),
(⟨some 25,none,.bin .add .plain (.tmp 19) (.tmp 24)⟩,8,[]),
(⟨some 26,none,.bin .add .plain (.tmp 25) (.cst (.str ⟨#[93]⟩))⟩,9,[]),
(⟨some 2,none,.mv (.tmp 26)⟩,10,[])])
(.ret))
(.seq (.reg [⟨some 28,none,.bin .eql .plain (.tmp 5) (.cst (.int .i64 5))⟩,
⟨some 27,none,.mv (.tmp 28)⟩])
(.cond (.tmp 27)
(.seq (.reg [⟨some 29,none,.fad (.tmp 1) 4⟩,
⟨some 30,none,.load (.tmp 29) 1 false⟩,
⟨some 31,none,.idxS (.tmp 30) (.cst (.int .i64 0)) 5⟩,
⟨some 32,none,.load (.tmp 31) 5 true⟩,
⟨some 33,none,.call 70 [(.tmp 32),(.cst (.int .i64 8))]⟩,
⟨some 34,none,.bin .add .plain (.cst (.str ⟨#[33]⟩)) (.tmp 33)⟩,
⟨some 2,none,.mv (.tmp 34)⟩])
(.ret))
(.seq (.reg [⟨some 36,none,.bin .eql .plain (.tmp 5) (.cst (.int .i64 6))⟩,
⟨some 35,none,.mv (.tmp 36)⟩])
(.cond (.tmp 35)
(.seq (.draw [(⟨some 37,none,.fad (.tmp 1) 4⟩,0,[]),
(⟨some 38,none,.load (.tmp 37) 1 false⟩,1,[]),
(⟨some 39,none,.idxS (.tmp 38) (.cst (.int .i64 0)) 5⟩,2,[]),
(⟨some 40,none,.load (.tmp 39) 5 true⟩,3,[]),
(⟨some 43,none,.fad (.tmp 1) 4⟩,6,[]),
(⟨some 44,none,.load (.tmp 43) 1 false⟩,7,[]),
(⟨some 45,none,.idxS (.tmp 44) (.cst (.int .i64 1)) 5⟩,8,[]),
(⟨some 46,none,.load (.tmp 45) 5 true⟩,9,[]),
(⟨some 50,none,.fad (.tmp 1) 4⟩,13,[]),
(⟨some 51,none,.load (.tmp 50) 1 false⟩,14,[]),
(⟨some 52,none,.idxS (.tmp 51) (.cst (.int .i64 2)) 5⟩,15,[]),
(⟨some 53,none,.load (.tmp 52) 5 true⟩,16,[]),
(⟨some 41,none,.call 70 [(.tmp 40),(.cst (.int .i64 2))]⟩,4,[5,7,9,11]),
(⟨some 42,none,.bin .add .plain (.tmp 41) (.cst (.str ⟨#[32,63,32]⟩))⟩,5,[]),
(⟨some 47,none,.call 54 [(.tmp 46)]⟩,10,[9,11]),
(⟨some 48,none,.bin .add .plain (.tmp 42) (.tmp 47)⟩,11,[]),
(⟨some 49,none,.bin .add .plain (.tmp 48) (.cst (.str ⟨#[32,58,32]⟩))⟩,12,[]),
(⟨some 54,none,.call 54 [(.tmp 53)]⟩,17,[]),
(⟨some 55,none,.bin .add .plain (.tmp 49) (.tmp 54)⟩,18,[]),
(⟨some 2,none,.mv (.tmp 55)⟩,19,[])])
(.ret))
(.skip)))))))))))))
(.seq (.reg [⟨some 56,none,.load (.tmp 1) 5 true⟩,
⟨some 57,none,.call 71 [(.tmp 56)]⟩,
⟨some 3,none,.mv (.tmp 57)⟩])
(.seq (.draw [(⟨some 58,none,.fad (.tmp 1) 4⟩,0,[]),
(⟨some 59,none,.load (.tmp 58) 1 false⟩,1,[]),
(⟨some 60,none,.idxS (.tmp 59) (.cst (.int .i64 0)) 5⟩,2,[]),
(⟨some 61,none,.load (.tmp 60) 5 true⟩,3,[]),
(⟨some 62,none,.mv (.tmp 3)⟩,4,[]),
(⟨some 65,none,.fad (.tmp 1) 1⟩,7,[]),
(⟨some 66,none,.load (.tmp 65) 1 false⟩,8,[]),
(⟨some 70,none,.fad (.tmp 1) 4⟩,12,[]),
(⟨some 71,none,.load (.tmp 70) 1 false⟩,13,[]),
(⟨some 72,none,.idxS (.tmp 71) (.cst (.int .i64 1)) 5⟩,14,[]),
(⟨some 73,none,.load (.tmp 72) 5 true⟩,15,[]),
(⟨some 74,none,.mv (.tmp 3)⟩,16,[]),
(⟨some 75,none,.bin .add .plain (.tmp 74) (.cst (.int .i64 1))⟩,17,[]),
(⟨some 63,none,.call 70 [(.tmp 61),(.tmp 62)]⟩,5,[6,8,10]),
(⟨some 64,none,.bin .add .plain (.tmp 63) (.cst (.str ⟨#[32]⟩))⟩,6,[]),
(⟨some 67,none,.call 72 [(.tmp 66)]⟩,9,[8,10]),
(⟨some 68,none,.bin .add .plain (.tmp 64) (.tmp 67)⟩,10,[]),
(⟨some 69,none,.bin .add .plain (.tmp 68) (.cst (.str ⟨#[32]⟩))⟩,11,[]),
(⟨some 76,none,.call 70 [(.tmp 73),(.tmp 75)]⟩,18,[]),
(⟨some 77,none,.bin .add .plain (.tmp 69) (.tmp 76)⟩,19,[]),
(⟨some 2,none,.mv (.tmp 77)⟩,20,[])])
(.ret))))⟩
theorem tr54 : trF Go.Proofs.Tryd.prog { obj := [],bare := [],loops := [],draws := [(7,([0,1,3,0,8,24,56,120,255,511,1023],[(0,[]),(1,[]),(2,[]),(3,[]),(4,[]),(5,[]),(6,[]),(7,[1]),(8,[]),(9,[]),(10,[])])),(11,([0,1,3,7,15,31,0,64,192,448,991,2047,4095,0,8192,24576,57344,124895,262143,524287],[(0,[]),(1,[]),(2,[]),(3,[]),(6,[]),(7,[]),(8,[]),(9,[]),(13,[]),(14,[]),(15,[]),(16,[]),(4,[5,7,9,11]),(5,[]),(10,[9,11]),(11,[]),(12,[]),(17,[]),(18,[]),(19,[])])),(13,([0,1,3,7,0,31,63,0,128,447,1023,2047,0,4096,12288,28672,0,65536,259007,524287,1048575],[(0,[]),(1,[]),(2,[]),(3,[]),(4,[]),(7,[]),(8,[]),(12,[]),(13,[]),(14,[]),(15,[]),(16,[]),(17,[]),(5,[6,8,10]),(6,[]),(9,[8,10]),(10,[]),(11,[]),(18,[]),(19,[]),(20,[])]))],glob := globs,fresh := false } Go.Proofs.Tryd.f54 = some ir54 := by kernel_rfl
def ir55 : IFn := ⟨23,[.tmp 4 false],
.seq (.reg [⟨some 2,none,.box (.tmp 0) false⟩,
⟨some 4,none,.mv (.cst (.int .i64 0))⟩])
(.seq (.seq (.reg [⟨some 5,none,.fad (.tmp 2) 0⟩,
⟨some 6,none,.load (.tmp 5) 1 false⟩,
⟨some 7,none,.bin .neq .plain (.tmp 6) (.cst (.int .i64 1))⟩,
⟨some 8,none,.mv (.tmp 7)⟩,
⟨some 9,some (8,false),.fad (.tmp 2) 2⟩,
⟨some 10,some (8,false),.load (.tmp 9) 1 false⟩,
⟨some 11,some (8,false),.un .not (.tmp 10)⟩,
⟨some 12,none,.pick (.tmp 8) (.cst (.bool true)) (.tmp 11)⟩])
(.cond (.tmp 12)
(.reg [⟨some 13,none,.call 36 [(.cst (.int .i64 1))]⟩])
(.skip)))
(.seq (.seq (.reg [⟨some 14,none,.fad (.tmp 2) 3⟩,
⟨some 15,none,.load (.tmp 14) 1 false⟩,
⟨some 16,none,.mv (.tmp 1)⟩,
⟨some 17,none,.cvI .u64 (.tmp 16)⟩,
⟨some 18,none,.bin .geq .plain (.tmp 15) (.tmp 17)⟩])
(.cond (.tmp 18)
(.reg [⟨some 19,none,.call 36 [(.cst (.int .i64 13))]⟩])
(.skip)))
(.seq (.reg [⟨some 20,none,.fad (.tmp 2) 3⟩,
⟨some 21,none,.load (.tmp 20) 1 false⟩,
⟨some 22,none,.cvI .i64 (.tmp 21)⟩,
⟨some 4,none,.mv (.tmp 22)⟩])
(.ret))))⟩
theorem tr55 : trF Go.Proofs.Tryd.prog { obj := [],bare := [],loops := [],draws := [],glob := globs,fresh := false } Go.Proofs.Tryd.f55 = some ir55 := by kernel_rfl
def ir56 : IFn := ⟨9,[],
.seq (.reg [⟨some 2,none,.box (.tmp 0) false⟩])
(.seq (.reg [⟨some 4,none,.fad (.tmp 2) 0⟩,
⟨some 5,none,.load (.tmp 4) 1 false⟩,
⟨some 6,none,.mv (.tmp 1)⟩,
⟨some 7,none,.bin .neq .plain (.tmp 5) (.tmp 6)⟩])
(.cond (.tmp 7)
(.reg [⟨some 8,none,.call 36 [(.cst (.int .i64 5))]⟩])
(.skip)))⟩
theorem tr56 : trF Go.Proofs.Tryd.prog { obj := [],bare := [],loops := [],draws := [],glob := globs,fresh := false } Go.Proofs.Tryd.f56 = some ir56 := by kernel_rfl
def ir57 : IFn := ⟨145,[],
.seq (.reg [⟨some 20,none,.mv (.tmp 0)⟩,
⟨some 21,none,.nilc (.tmp 20)⟩,
⟨some 22,none,.fad (.tmp 21) 7⟩,
⟨some 23,none,.load (.tmp 22) 1 false⟩,
⟨some 24,none,.bin .add .plain (.tmp 23) (.cst (.int .i64 1))⟩,
⟨some 25,none,.nilc (.tmp 20)⟩,
⟨some 26,none,.fad (.tmp 25) 7⟩,
⟨none,none,.store (.tmp 26) (.tmp 24) 1⟩])
(.seq (.draw [(⟨some 27,none,.mv (.tmp 0)⟩,0,[]),
(⟨some 28,none,.nilc (.tmp 27)⟩,1,[]),
(⟨some 29,none,.fad (.tmp 28) 2⟩,2,[]),
(⟨some 30,none,.load (.tmp 29) 1 false⟩,3,[]),
(⟨some 32,none,.mv (.tmp 0)⟩,5,[]),
(⟨some 33,none,.nilc (.tmp 32)⟩,6,[]),
(⟨some 34,none,.fad (.tmp 33) 3⟩,7,[]),
(⟨some 35,none,.load (.tmp 34) 1 false⟩,8,[]),
(⟨some 31,none,.call 73 [(.tmp 30)]⟩,4,[7]),
(⟨some 36,none,.call 74 [(.tmp 35)]⟩,9,[]),
(⟨some 6,none,.mv (.tmp 31)⟩,10,[]),
(⟨some 7,none,.mv (.tmp 36)⟩,11,[])])
(.seq (.reg [⟨some 37,none,.mv (.tmp 0)⟩,
⟨some 38,none,.mv (.tmp 1)⟩,
⟨some 39,none,.call 37 [(.tmp 37),(.tmp 38)]⟩])
(.seq (.reg [⟨some 40,none,.mv (.tmp 6)⟩,
⟨some 8,none,.mv (.tmp 40)⟩])
(.seq (.draw [(⟨some 41,none,.mv (.tmp 0)⟩,0,[]),
(⟨some 42,none,.nilc (.tmp 41)⟩,1,[]),
(⟨some 43,none,.fad (.tmp 42) 2⟩,2,[]),
(⟨some 44,none,.load (.tmp 43) 1 false⟩,3,[]),
(⟨some 45,none,.mv (.tmp 0)⟩,4,[]),
(⟨some 46,none,.nilc (.tmp 45)⟩,5,[]),
(⟨some 47,none,.fad (.tmp 46) 3⟩,6,[]),
(⟨some 48,none,.load (.tmp 47) 1 false⟩,7,[]),
(⟨some 9,none,.mv (.tmp 44)⟩,8,[]),
(⟨some 10,none,.mv (.tmp 48)⟩,9,[])])
(.seq (.reg [⟨some 49,none,.mv (.tmp 0)⟩,
⟨some 50,none,.mv (.tmp 0)⟩,
⟨some 51,none,.mv (.tmp 6)⟩,
⟨some 52,none,.call 73 [(.tmp 51)]⟩,
⟨some 53,none,.mv (.tmp 7)⟩,
⟨some 54,none,.nilc (.tmp 49)⟩,
⟨some 55,none,.fad (.tmp 54) 2⟩,
⟨none,none,.store (.tmp 55) (.tmp 52) 1⟩,
⟨some 56,none,.nilc (.tmp 50)⟩,
⟨some 57,none,.fad (.tmp 56) 3⟩,
⟨none,none,.store (.tmp 57) (.tmp 53) 1⟩])
(.seq (.reg [⟨some 58,none,.mv (.tmp 0)⟩,
⟨some 59,none,.mv (.tmp 2)⟩,
⟨some 60,none,.call 37 [(.tmp 58),(.tmp 59)]⟩])
(.seq (.reg [⟨some 61,none,.mv (.tmp 0)⟩,
⟨some 62,none,.nilc (.tmp 61)⟩,
⟨some 63,none,.fad (.tmp 62) 7⟩,
⟨some 64,none,.load (.tmp 63) 1 false⟩,
⟨some 65,none,.bin .sub .plain (.tmp 64) (.cst (.int .i64 1))⟩,
⟨some 66,none,.nilc (.tmp 61)⟩,
⟨some 67,none,.fad (.tmp 66) 7⟩,
⟨none,none,.store (.tmp 67) (.tmp 65) 1⟩])
(.seq (.reg [⟨some 68,none,.mkM⟩,
⟨some 11,none,.mv (.tmp 68)⟩])
(.seq (.seq (.reg [⟨some 69,none,.mv (.tmp 8)⟩,
⟨some 70,none,.rng (.tmp 69)⟩])
(.block 0
(.loop [0,9,10,11,70]
(.seq (.reg [⟨some 71,none,.nxt (.tmp 70)⟩,
⟨some 72,none,.ext (.tmp 71) 0⟩])
(.seq (.cond (.tmp 72)
(.skip)
(.brk 0))
(.block 1
(.seq (.reg [⟨some 73,none,.ent (.tmp 70)⟩,
⟨some 74,none,.ext (.tmp 73) 0⟩,
⟨some 12,none,.mv (.tmp 74)⟩])
(.seq (.reg [⟨some 76,none,.mv (.tmp 9)⟩,
⟨some 77,none,.mv (.tmp 12)⟩,
⟨some 78,none,.lkp .s (.tmp 76) (.tmp 77) (.agg [(.int .i64 0),(.int .i64 0),(.bool false),(.int .u64 0)]) true⟩,
⟨some 75,none,.mv (.tmp 78)⟩,
⟨some 79,none,.ext (.tmp 75) 0⟩,
⟨some 80,none,.ext (.tmp 75) 1⟩,
⟨some 13,none,.allocz [(.int .i64 0),(.int .i64 0),(.bool false),(.int .u64 0)] false⟩,
⟨none,none,.store (.tmp 13) (.tmp 79) 4⟩,
⟨some 14,none,.mv (.tmp 80)⟩])
(.seq (.reg [⟨some 82,none,.mv (.tmp 0)⟩,
⟨some 83,none,.nilc (.tmp 82)⟩,
⟨some 84,none,.fad (.tmp 83) 2⟩,
⟨some 85,none,.load (.tmp 84) 1 false⟩,
⟨some 86,none,.mv (.tmp 12)⟩,
⟨some 87,none,.lkp .s (.tmp 85) (.tmp 86) (.agg [(.int .i64 0),(.int .i64 0),(.bool false),(.int .u64 0)]) true⟩,
⟨some 81,none,.mv (.tmp 87)⟩,
⟨some 88,none,.ext (.tmp 81) 0⟩,
⟨some 89,none,.ext (.tmp 81) 1⟩,
⟨some 15,none,.allocz [(.int .i64 0),(.int .i64 0),(.bool false),(.int .u64 0)] false⟩,
⟨none,none,.store (.tmp 15) (.tmp 88) 4⟩,
⟨some 16,none,.mv (.tmp 89)⟩])
(.seq (.reg [⟨some 90,none,.mv (.tmp 14)⟩,
⟨some 91,none,.mv (.tmp 90)⟩,
⟨some 92,some (91,true),.mv (.tmp 16)⟩,
⟨some 93,none,.pick (.tmp 91) (.tmp 92) (.cst (.bool false))⟩,
⟨some 94,none,.mv (.tmp 93)⟩,
⟨some 95,some (94,true),.fad (.tmp 13) 0⟩,
⟨some 96,some (94,true),.load (.tmp 95) 1 false⟩,
⟨some 97,some (94,true),.fad (.tmp 15) 0⟩,
⟨some 98,some (94,true),.load (.tmp 97) 1 false⟩,
⟨some 99,some (94,true),.bin .eql .plain (.tmp 96) (.tmp 98)⟩,
⟨some 100,none,.pick (.tmp 94) (.tmp 99) (.cst (.bool false))⟩])
(.cond (.tmp 100)
(.reg [⟨some 101,none,.mv (.tmp 11)⟩,
⟨some 102,none,.mv (.tmp 12)⟩,
⟨some 103,none,.fad (.tmp 13) 0⟩,
⟨some 104,none,.load (.tmp 103) 1 false⟩,
⟨some 105,none,.fad (.tmp 13) 1⟩,
⟨some 106,none,.load (.tmp 105) 1 false⟩,
⟨some 107,none,.fad (.tmp 15) 1⟩,
⟨some 108,none,.load (.tmp 107) 1 false⟩,
⟨some 109,none,.max [(.tmp 106),(.tmp 108)]⟩,
⟨some 110,none,.bld [(.int .i64 0),(.int .i64 0),(.bool false),(.int .u64 0)] [(0,1,(.tmp 104)),(1,1,(.tmp 109))]⟩,
⟨none,none,.mup .s (.tmp 101) (.tmp 102) (.tmp 110)⟩])
(.skip))))))))))))
(.seq (.reg [⟨some 111,none,.mv (.tmp 0)⟩,
⟨some 112,none,.mv (.tmp 11)⟩,
⟨some 113,none,.nilc (.tmp 111)⟩,
⟨some 114,none,.fad (.tmp 113) 2⟩,
⟨none,none,.store (.tmp 114) (.tmp 112) 1⟩])
(.seq (.reg [⟨some 115,none,.mv (.tmp 0)⟩,
⟨some 116,none,.nilc (.tmp 115)⟩,
⟨some 117,none,.fad (.tmp 116) 3⟩,
⟨some 118,none,.load (.tmp 117) 1 false⟩,
⟨some 119,none,.rng (.tmp 118)⟩])
(.block 2
(.loop [10,119]
(.seq (.reg [⟨some 120,none,.nxt (.tmp 119)⟩,
⟨some 121,none,.ext (.tmp 120) 0⟩])
(.seq (.cond (.tmp 121)
(.skip)
(.brk 2))
(.block 3
(.seq (.reg [⟨some 122,none,.ent (.tmp 119)⟩,
⟨some 123,none,.ext (.tmp 122) 0⟩,
⟨some 124,none,.ext (.tmp 122) 1⟩,
⟨some 17,none,.mv (.tmp 123)⟩,
⟨some 18,none,.mv (.tmp 124)⟩])
(.seq (.reg [⟨some 125,none,.mv (.tmp 18)⟩,
⟨some 126,none,.len .i (.tmp 125)⟩,
⟨some 127,none,.mv (.cst (.int .i64 0))⟩])
(.block 4
(.loop [10,17,18,119,126,127]
(.seq (.reg [⟨some 128,none,.bin .lss .plain (.tmp 127) (.tmp 126)⟩])
(.seq (.cond (.tmp 128)
(.skip)
(.brk 4))
(.seq (.block 5
(.seq (.reg [⟨some 129,none,.mv (.tmp 127)⟩,
⟨some 19,none,.mv (.tmp 129)⟩])
(.draw [(⟨some 130,none,.mv (.tmp 18)⟩,0,[]),
(⟨some 131,none,.mv (.tmp 19)⟩,1,[]),
(⟨some 132,none,.mv (.tmp 18)⟩,2,[]),
(⟨some 133,none,.mv (.tmp 19)⟩,3,[]),
(⟨some 134,none,.idxS (.tmp 132) (.tmp 133) 1⟩,4,[]),
(⟨some 135,none,.load (.tmp 134) 1 false⟩,5,[]),
(⟨some 136,none,.mv (.tmp 10)⟩,6,[]),
(⟨some 137,none,.mv (.tmp 17)⟩,7,[]),
(⟨some 138,none,.lkp .s (.tmp 136) (.tmp 137) (.vec [] .full) false⟩,8,[]),
(⟨some 139,none,.mv (.tmp 19)⟩,9,[]),
(⟨some 140,none,.idxS (.tmp 138) (.tmp 139) 1⟩,10,[]),
(⟨some 141,none,.load (.tmp 140) 1 false⟩,11,[]),
(⟨some 142,none,.max [(.tmp 135),(.tmp 141)]⟩,12,[]),
(⟨some 143,none,.idxS (.tmp 130) (.tmp 131) 1⟩,13,[]),
(⟨none,none,.store (.tmp 143) (.tmp 142) 1⟩,14,[])])))
(.reg [⟨some 144,none,.bin .add .plain (.tmp 127) (.cst (.int .i64 1))⟩,
⟨some 127,none,.mv (.tmp 144)⟩]))))))))))))))))))))))))⟩
theorem tr57 : trF Go.Proofs.Tryd.prog { obj := [],bare := [],loops := [[0,9,10,11,70],[10,119],[10,17,18,119,126,127]],draws := [(1,([0,1,3,7,15,0,32,96,224,511,1023,2047],[(0,[]),(1,[]),(2,[]),(3,[]),(5,[]),(6,[]),(7,[]),(8,[]),(4,[7]),(9,[]),(10,[]),(11,[])])),(4,([0,1,3,7,0,16,48,112,15,511],[(0,[]),(1,[]),(2,[]),(3,[]),(4,[]),(5,[]),(6,[]),(7,[]),(8,[]),(9,[])])),(23,([0,0,0,0,12,28,0,0,192,0,960,1984,4092,8191,16383],[(0,[]),(1,[]),(2,[]),(3,[]),(4,[]),(5,[]),(6,[]),(7,[]),(8,[]),(9,[]),(10,[]),(11,[]),(12,[]),(13,[]),(14,[])]))],glob := globs,fresh := false } Go.Proofs.Tryd.f57 = some ir57 := by kernel_rfl
def ir58 : IFn := ⟨67,[],
.seq (.reg [⟨some 5,none,.box (.tmp 1) false⟩,
⟨some 6,none,.box (.tmp 2) false⟩,
⟨some 7,none,.box (.tmp 3) false⟩])
(.seq (.seq (.reg [⟨some 9,none,.fad (.tmp 6) 0⟩,
⟨some 10,none,.load (.tmp 9) 1 false⟩,
⟨some 11,none,.bin .neq .plain (.tmp 10) (.cst (.int .i64 1))⟩,
⟨some 12,none,.mv (.tmp 11)⟩,
⟨some 13,some (12,false),.fad (.tmp 7) 0⟩,
⟨some 14,some (12,false),.load (.tmp 13) 1 false⟩,
⟨some 15,some (12,false),.bin .neq .plain (.tmp 14) (.cst (.int .i64 1))⟩,
⟨some 16,none,.pick (.tmp 12) (.cst (.bool true)) (.tmp 15)⟩,
⟨some 17,none,.mv (.tmp 16)⟩,
⟨some 18,some (17,false),.fad (.tmp 6) 2⟩,
⟨some 19,some (17,false),.load (.tmp 18) 1 false⟩,
⟨some 20,some (17,false),.un .not (.tmp 19)⟩,
⟨some 21,none,.pick (.tmp 17) (.cst (.bool true)) (.tmp 20)⟩,
⟨some 22,none,.mv (.tmp 21)⟩,
⟨some 23,some (22,false),.fad (.tmp 7) 2⟩,
⟨some 24,some (22,false),.load (.tmp 23) 1 false⟩,
⟨some 25,some (22,false),.un .not (.tmp 24)⟩,
⟨some 26,none,.pick (.tmp 22) (.cst (.bool true)) (.tmp 25)⟩])
(.cond (.tmp 26)
(.reg [⟨some 27,none,.call 36 [(.cst (.int .i64 1))]⟩])
(.skip)))
(.seq (.seq (.reg [⟨some 28,none,.mv (.tmp 0)⟩,
⟨some 29,none,.fad (.tmp 5) 1⟩,
⟨some 30,none,.load (.tmp 29) 1 false⟩,
⟨some 31,none,.call 35 [(.tmp 28),(.tmp 30)]⟩])
(.cond (.tmp 31)
(.reg [⟨some 32,none,.call 36 [(.cst (.int .i64 4))]⟩])
(.skip)))
(.seq (.draw [(⟨some 33,none,.mv (.tmp 0)⟩,0,[]),
(⟨some 34,none,.nilc (.tmp 33)⟩,1,[]),
(⟨some 35,none,.fad (.tmp 34) 2⟩,2,[]),
(⟨some 36,none,.load (.tmp 35) 1 false⟩,3,[]),
(⟨some 37,none,.fad (.tmp 5) 1⟩,4,[]),
(⟨some 38,none,.load (.tmp 37) 1 false⟩,5,[]),
(⟨none,none,.mdel .s (.tmp 36) (.tmp 38)⟩,6,[])])
(.seq (.seq (.reg [⟨some 39,none,.fad (.tmp 6) 3⟩,
⟨some 40,none,.load (.tmp 39) 1 false⟩,
⟨some 8,none,.mv (.tmp 40)⟩])
(.block 0
(.loop [0,5,7,8]
(.seq (.seq (.reg [⟨some 41,none,.mv (.tmp 8)⟩,
⟨some 42,none,.fad (.tmp 7) 3⟩,
⟨some 43,none,.load (.tmp 42) 1 false⟩,
⟨some 44,none,.bin .leq .plain (.tmp 41) (.tmp 43)⟩])
(.cond (.tmp 44)
(.skip)
(.brk 0)))
(.seq (.block 1
(.seq (.reg [⟨some 47,none,.mv (.tmp 0)⟩,
⟨some 48,none,.call 47 [(.tmp 47)]⟩])
(.seq (.draw [(⟨some 49,none,.mv (.tmp 0)⟩,0,[]),
(⟨some 50,none,.nilc (.tmp 49)⟩,1,[]),
(⟨some 51,none,.fad (.tmp 50) 4⟩,2,[]),
(⟨some 52,none,.load (.tmp 51) 1 false⟩,3,[]),
(⟨some 53,none,.fad (.tmp 5) 1⟩,4,[]),
(⟨some 54,none,.load (.tmp 53) 1 false⟩,5,[]),
(⟨some 55,none,.mv (.tmp 8)⟩,6,[]),
(⟨some 56,none,.call 75 [(.tmp 55)]⟩,7,[3,5]),
(⟨none,none,.mup .s (.tmp 52) (.tmp 54) (.tmp 56)⟩,8,[])])
(.reg [⟨some 57,none,.mv (.tmp 0)⟩,
⟨some 58,none,.fad (.tmp 5) 3⟩,
⟨some 59,none,.load (.tmp 58) 1 false⟩,
⟨some 60,none,.call 37 [(.tmp 57),(.tmp 59)]⟩]))))
(.reg [⟨some 45,none,.mv (.tmp 8)⟩,
⟨some 46,none,.bin .add .plain (.tmp 45) (.cst (.int .u64 1))⟩,
⟨some 8,none,.mv (.tmp 46)⟩]))))))
(.draw [(⟨some 61,none,.mv (.tmp 0)⟩,0,[]),
(⟨some 62,none,.nilc (.tmp 61)⟩,1,[]),
(⟨some 63,none,.fad (.tmp 62) 4⟩,2,[]),
(⟨some 64,none,.load (.tmp 63) 1 false⟩,3,[]),
(⟨some 65,none,.fad (.tmp 5) 1⟩,4,[]),
(⟨some 66,none,.load (.tmp 65) 1 false⟩,5,[]),
(⟨none,none,.mdel .s (.tmp 64) (.tmp 66)⟩,6,[])])))))⟩
theorem tr58 : trF Go.Proofs.Tryd.prog { obj := [],bare := [],loops := [[0,5,7,8]],draws := [(5,([0,1,3,7,0,16,63],[(0,[]),(1,[]),(2,[]),(3,[]),(4,[]),(5,[]),(6,[])])),(10,([0,1,3,7,0,16,0,64,255],[(0,[]),(1,[]),(2,[]),(3,[]),(4,[]),(5,[]),(6,[]),(7,[3,5]),(8,[])])),(12,([0,1,3,7,0,16,63],[(0,[]),(1,[]),(2,[]),(3,[]),(4,[]),(5,[]),(6,[])]))],glob := globs,fresh := false } Go.Proofs.Tryd.f58 = some ir58 := by kernel_rfl
def ir59 : IFn := ⟨86,[.cell 4 4 true false],
.seq (.reg [⟨some 3,none,.box (.tmp 1) false⟩,
⟨some 4,none,.allocz [(.int .i64 0),(.int .i64 0),(.bool false),(.int .u64 0)] false⟩])
(.seq (.reg [⟨some 6,none,.mv (.tmp 0)⟩,
⟨some 7,none,.fad (.tmp 3) 4⟩,
⟨some 8,none,.load (.tmp 7) 1 false⟩,
⟨some 9,none,.call 49 [(.tmp 6),(.tmp 8)]⟩,
⟨some 5,none,.mv (.tmp 9)⟩])
(.seq (.seq (.reg [⟨some 10,none,.fad (.tmp 3) 0⟩,
⟨some 11,none,.load (.tmp 10) 1 false⟩])
(.block 0
(.seq (.reg [⟨some 13,none,.bin .eql .plain (.tmp 11) (.cst (.int .i64 1))⟩,
⟨some 12,none,.mv (.tmp 13)⟩])
(.cond (.tmp 12)
(.seq (.reg [⟨some 14,none,.mv (.tmp 0)⟩,
⟨some 15,none,.fad (.tmp 3) 2⟩,
⟨some 16,none,.load (.tmp 15) 1 false⟩,
⟨some 17,none,.call 75 [(.tmp 16)]⟩,
⟨some 18,none,.call 76 [(.tmp 14),(.tmp 17)]⟩,
⟨none,none,.store (.tmp 4) (.tmp 18) 4⟩])
(.ret))
(.seq (.reg [⟨some 20,none,.bin .eql .plain (.tmp 11) (.cst (.int .i64 2))⟩,
⟨some 19,none,.mv (.tmp 20)⟩])
(.cond (.tmp 19)
(.seq (.reg [⟨some 21,none,.mv (.tmp 0)⟩,
⟨some 22,none,.mv (.tmp 0)⟩,
⟨some 23,none,.fad (.tmp 3) 3⟩,
⟨some 24,none,.load (.tmp 23) 1 false⟩,
⟨some 25,none,.call 77 [(.tmp 22),(.tmp 24)]⟩,
⟨some 26,none,.call 76 [(.tmp 21),(.tmp 25)]⟩,
⟨none,none,.store (.tmp 4) (.tmp 26) 4⟩])
(.ret))
(.seq (.reg [⟨some 28,none,.bin .eql .plain (.tmp 11) (.cst (.int .i64 3))⟩,
⟨some 27,none,.mv (.tmp 28)⟩])
(.cond (.tmp 27)
(.seq (.draw [(⟨some 29,none,.mv (.tmp 0)⟩,0,[]),
(⟨some 30,none,.mv (.tmp 0)⟩,1,[]),
(⟨some 31,none,.fad (.tmp 3) 3⟩,2,[]),
(⟨some 32,none,.load (.tmp 31) 1 false⟩,3,[]),
(⟨some 33,none,.mv (.tmp 5)⟩,4,[]),
(⟨some 34,none,.idxS (.tmp 33) (.cst (.int .i64 0)) 4⟩,5,[]),
(⟨some 35,none,.load (.tmp 34) 4 true⟩,6,[]),
(⟨some 36,none,.call 78 [(.tmp 30),(.tmp 32),(.tmp 35)]⟩,7,[]),
(⟨some 37,none,.call 76 [(.tmp 29),(.tmp 36)]⟩,8,[]),
(⟨none,none,.store (.tmp 4) (.tmp 37) 4⟩,9,[])])
(.ret))
(.seq (.reg [⟨some 39,none,.bin .eql .plain (.tmp 11) (.cst (.int .i64 4))⟩,
⟨some 38,none,.mv (.tmp 39)⟩])
(.cond (.tmp 38)
(.seq (.draw [(⟨some 40,none,.mv (.tmp 0)⟩,0,[]),
(⟨some 41,none,.fad (.tmp 3) 1⟩,1,[]),
(⟨some 42,none,.load (.tmp 41) 1 false⟩,2,[]),
(⟨some 43,none,.mv (.tmp 5)⟩,3,[]),
(⟨some 44,none,.idxS (.tmp 43) (.cst (.int .i64 0)) 4⟩,4,[]),
(⟨some 45,none,.load (.tmp 44) 4 true⟩,5,[]),
(⟨some 46,none,.mv (.tmp 5)⟩,6,[]),
(⟨some 47,none,.idxS (.tmp 46) (.cst (.int .i64 1)) 4⟩,7,[]),
(⟨some 48,none,.load (.tmp 47) 4 true⟩,8,[]),
(⟨some 49,none,.call 79 [(.tmp 42),(.tmp 45),(.tmp 48)]⟩,9,[]),
(⟨some 50,none,.call 76 [(.tmp 40),(.tmp 49)]⟩,10,[]),
(⟨none,none,.store (.tmp 4) (.tmp 50) 4⟩,11,[])])
(.ret))
(.seq (.reg [⟨some 52,none,.bin .eql .plain (.tmp 11) (.cst (.int .i64 5))⟩,
⟨some 51,none,.mv (.tmp 52)⟩])
(.cond (.tmp 51)
(.seq (.reg [⟨some 53,none,.mv (.tmp 5)⟩,
⟨some 54,none,.idxS (.tmp 53) (.cst (.int .i64 0)) 4⟩,
⟨some 55,none,.load (.tmp 54) 4 true⟩,
⟨some 56,none,.call 56 [(.tmp 55),(.cst (.int .i64 2))]⟩])
(.seq (.reg [⟨some 57,none,.load (.glob 1 [(.int .i64 2),(.int .i64 0),(.bool false),(.int .u64 0)]) 4 true⟩,
⟨none,none,.store (.tmp 4) (.tmp 57) 4⟩])
(.ret)))
(.skip)))))))))))))
(.seq (.reg [⟨some 58,none,.mv (.tmp 5)⟩,
⟨some 59,none,.idxS (.tmp 58) (.cst (.int .i64 0)) 4⟩,
⟨some 60,none,.load (.tmp 59) 4 true⟩,
⟨some 61,none,.call 56 [(.tmp 60),(.cst (.int .i64 2))]⟩])
(.seq (.draw [(⟨some 62,none,.mv (.tmp 5)⟩,0,[]),
(⟨some 63,none,.idxS (.tmp 62) (.cst (.int .i64 2)) 4⟩,1,[]),
(⟨some 64,none,.load (.tmp 63) 4 true⟩,2,[]),
(⟨some 65,none,.mv (.tmp 5)⟩,3,[]),
(⟨some 66,none,.idxS (.tmp 65) (.cst (.int .i64 1)) 4⟩,4,[]),
(⟨some 67,none,.fad (.tmp 66) 0⟩,5,[]),
(⟨some 68,none,.load (.tmp 67) 1 false⟩,6,[]),
(⟨some 69,none,.call 56 [(.tmp 64),(.tmp 68)]⟩,7,[])])
(.seq (.draw [(⟨some 70,none,.mv (.tmp 0)⟩,0,[]),
(⟨some 71,none,.mv (.tmp 5)⟩,1,[]),
(⟨some 72,none,.idxS (.tmp 71) (.cst (.int .i64 1)) 4⟩,2,[]),
(⟨some 73,none,.fad (.tmp 72) 0⟩,3,[]),
(⟨some 74,none,.load (.tmp 73) 1 false⟩,4,[]),
(⟨some 75,none,.mv (.tmp 5)⟩,5,[]),
(⟨some 76,none,.idxS (.tmp 75) (.cst (.int .i64 1)) 4⟩,6,[]),
(⟨some 77,none,.fad (.tmp 76) 1⟩,7,[]),
(⟨some 78,none,.load (.tmp 77) 1 false⟩,8,[]),
(⟨some 79,none,.mv (.tmp 5)⟩,9,[]),
(⟨some 80,none,.idxS (.tmp 79) (.cst (.int .i64 2)) 4⟩,10,[]),
(⟨some 81,none,.fad (.tmp 80) 1⟩,11,[]),
(⟨some 82,none,.load (.tmp 81) 1 false⟩,12,[]),
(⟨some 83,none,.max [(.tmp 78),(.tmp 82)]⟩,13,[]),
(⟨some 84,none,.bld [(.int .i64 0),(.int .i64 0),(.bool false),(.int .u64 0)] [(0,1,(.tmp 74)),(1,1,(.tmp 83))]⟩,14,[]),
(⟨some 85,none,.call 76 [(.tmp 70),(.tmp 84)]⟩,15,[]),
(⟨none,none,.store (.tmp 4) (.tmp 85) 4⟩,16,[])])
(.ret))))))⟩
theorem tr59 : trF Go.Proofs.Tryd.prog { obj := [],bare := [],loops := [],draws := [(8,([0,0,0,4,0,16,48,126,255,511],[(0,[]),(1,[]),(2,[]),(3,[]),(4,[]),(5,[]),(6,[]),(7,[]),(8,[]),(9,[])])),(10,([0,0,2,0,8,24,0,64,192,510,1023,2047],[(0,[]),(1,[]),(2,[]),(3,[]),(4,[]),(5,[]),(6,[]),(7,[]),(8,[]),(9,[]),(10,[]),(11,[])])),(15,([0,1,3,0,8,24,56,127],[(0,[]),(1,[]),(2,[]),(3,[]),(4,[]),(5,[]),(6,[]),(7,[])])),(16,([0,0,2,6,14,0,32,96,224,0,512,1536,3584,8160,16382,32767,65535],[(0,[]),(1,[]),(2,[]),(3,[]),(4,[]),(5,[]),(6,[]),(7,[]),(8,[]),(9,[]),(10,[]),(11,[]),(12,[]),(13,[]),(14,[]),(15,[]),(16,[])]))],glob := globs,fresh := false } Go.Proofs.Tryd.f59 = some ir59 := by kernel_rfl
def ir60 : IFn := ⟨15,[.tmp 2 false],
.seq (.reg [⟨some 2,none,.mv (.cst (.int .i64 0))⟩])
(.seq (.seq (.reg [⟨some 3,none,.mv (.tmp 0)⟩,
⟨some 4,none,.nilc (.tmp 3)⟩,
⟨some 5,none,.fad (.tmp 4) 6⟩,
⟨some 6,none,.load (.tmp 5) 1 false⟩,
⟨some 7,none,.bin .geq .plain (.tmp 6) (.cst (.int .i64 10000))⟩])
(.cond (.tmp 7)
(.seq (.reg [⟨some 2,none,.mv (.cst (.int .i64 2))⟩])
(.ret))
(.skip)))
(.seq (.reg [⟨some 8,none,.mv (.tmp 0)⟩,
⟨some 9,none,.nilc (.tmp 8)⟩,
⟨some 10,none,.fad (.tmp 9) 6⟩,
⟨some 11,none,.load (.tmp 10) 1 false⟩,
⟨some 12,none,.bin .add .plain (.tmp 11) (.cst (.int .i64 1))⟩,
⟨some 13,none,.nilc (.tmp 8)⟩,
⟨some 14,none,.fad (.tmp 13) 6⟩,
⟨none,none,.store (.tmp 14) (.tmp 12) 1⟩])
(.seq (.reg [⟨some 2,none,.mv (.cst (.int .i64 0))⟩])
(.ret))))⟩
theorem tr60 : trF Go.Proofs.Tryd.prog { obj := [],bare := [],loops := [],draws := [],glob := globs,fresh := false } Go.Proofs.Tryd.f60 = some ir60 := by kernel_rfl
def ir61 : IFn := ⟨33,[.tmp 4 false,.tmp 5 false],
.seq (.reg [⟨some 4,none,.mv (.cst (.vec [] .full))⟩,
⟨some 5,none,.mv (.cst (.int .i64 0))⟩])
(.seq (.reg [⟨some 6,none,.mv (.cst (.vec [] .full))⟩])
(.seq (.seq (.reg [⟨some 7,none,.mv (.cst (.int .i64 0))⟩])
(.block 0
(.loop [0,1,6,7]
(.seq (.seq (.reg [⟨some 10,none,.mv (.tmp 7)⟩,
⟨some 11,none,.mv (.tmp 1)⟩,
⟨some 12,none,.len .i (.tmp 11)⟩,
⟨some 13,none,.bin .lss .plain (.tmp 10) (.tmp 12)⟩])
(.cond (.tmp 13)
(.skip)
(.brk 0)))
(.seq (.block 1
(.seq (.reg [⟨some 17,none,.mv (.tmp 0)⟩,
⟨some 18,none,.mv (.tmp 1)⟩,
⟨some 19,none,.mv (.tmp 7)⟩,
⟨some 20,none,.idxS (.tmp 18) (.tmp 19) 5⟩,
⟨some 21,none,.load (.tmp 20) 5 true⟩,
⟨some 22,none,.call 80 [(.tmp 17),(.tmp 21)]⟩,
⟨some 16,none,.mv (.tmp 22)⟩,
⟨some 23,none,.ext (.tmp 16) 0⟩,
⟨some 24,none,.ext (.tmp 16) 1⟩,
⟨some 8,none,.allocz [(.int .i64 0),(.int .i64 0),(.bool false),(.int .u64 0)] false⟩,
⟨none,none,.store (.tmp 8) (.tmp 23) 4⟩,
⟨some 9,none,.mv (.tmp 24)⟩])
(.seq (.seq (.reg [⟨some 25,none,.mv (.tmp 9)⟩,
⟨some 26,none,.bin .neq .plain (.tmp 25) (.cst (.int .i64 0))⟩])
(.cond (.tmp 26)
(.seq (.reg [⟨some 27,none,.mv (.tmp 9)⟩,
⟨some 4,none,.mv (.cst (.vec [] .full))⟩,
⟨some 5,none,.mv (.tmp 27)⟩])
(.ret))
(.skip)))
(.reg [⟨some 28,none,.mv (.tmp 6)⟩,
⟨some 29,none,.load (.tmp 8) 4 true⟩,
⟨some 30,none,.bsl 1 4 true [(.int .i64 0),(.int .i64 0),(.bool false),(.int .u64 0)] [(0,4,(.tmp 29))]⟩,
⟨some 31,none,.app (.tmp 28) (.tmp 30) 4 32 true false⟩,
⟨some 6,none,.mv (.tmp 31)⟩]))))
(.reg [⟨some 14,none,.mv (.tmp 7)⟩,
⟨some 15,none,.bin .add .plain (.tmp 14) (.cst (.int .i64 1))⟩,
⟨some 7,none,.mv (.tmp 15)⟩]))))))
(.seq (.reg [⟨some 32,none,.mv (.tmp 6)⟩,
⟨some 4,none,.mv (.tmp 32)⟩,
⟨some 5,none,.mv (.cst (.int .i64 0))⟩])
(.ret))))⟩
theorem tr61 : trF Go.Proofs.Tryd.prog { obj := [],bare := [],loops := [[0,1,6,7]],draws := [],glob := globs,fresh := false } Go.Proofs.Tryd.f61 = some ir61 := by kernel_rfl
def ir62 : IFn := ⟨30,[.tmp 4 false],
.seq (.reg [⟨some 4,none,.mv (.cst (.bool false))⟩])
(.seq (.reg [⟨some 5,none,.mv (.tmp 0)⟩,
⟨some 6,none,.nilc (.tmp 5)⟩,
⟨some 7,none,.fad (.tmp 6) 0⟩,
⟨some 8,none,.load (.tmp 7) 3 true⟩,
⟨some 9,none,.mv (.tmp 1)⟩,
⟨some 10,none,.call 81 [(.tmp 8),(.tmp 9)]⟩,
⟨some 11,none,.bin .geq .plain (.tmp 10) (.cst (.int .i64 0))⟩,
⟨some 12,none,.mv (.tmp 11)⟩,
⟨some 13,some (12,false),.mv (.tmp 0)⟩,
⟨some 14,some (12,false),.nilc (.tmp 13)⟩,
⟨some 15,some (12,false),.fad (.tmp 14) 0⟩,
⟨some 16,some (12,false),.load (.tmp 15) 3 true⟩,
⟨some 17,some (12,false),.mv (.tmp 1)⟩,
⟨some 18,some (12,false),.call 65 [(.tmp 16),(.tmp 17)]⟩,
⟨some 19,some (12,false),.bin .geq .plain (.tmp 18) (.cst (.int .i64 0))⟩,
⟨some 20,none,.pick (.tmp 12) (.cst (.bool true)) (.tmp 19)⟩,
⟨some 21,none,.mv (.tmp 20)⟩,
⟨some 22,some (21,false),.mv (.tmp 0)⟩,
⟨some 23,some (21,false),.nilc (.tmp 22)⟩,
⟨some 24,some (21,false),.fad (.tmp 23) 4⟩,
⟨some 25,some (21,false),.load (.tmp 24) 1 false⟩,
⟨some 26,some (21,false),.mv (.tmp 1)⟩,
⟨some 27,some (21,false),.call 82 [(.tmp 25),(.tmp 26)]⟩,
⟨some 28,some (21,false),.bin .geq .plain (.tmp 27) (.cst (.int .i64 0))⟩,
⟨some 29,none,.pick (.tmp 21) (.cst (.bool true)) (.tmp 28)⟩,
⟨some 4,none,.mv (.tmp 29)⟩])
(.ret))⟩
theorem tr62 : trF Go.Proofs.Tryd.prog { obj := [],bare := [],loops := [],draws := [],glob := globs,fresh := false } Go.Proofs.Tryd.f62 = some ir62 := by kernel_rfl
def ir63 : IFn := ⟨28,[.tmp 4 true],
.seq (.reg [⟨some 4,none,.mv (.cst (.vec [] .full))⟩])
(.seq (.reg [⟨some 5,none,.mv (.cst (.vec [] .full))⟩])
(.seq (.seq (.reg [⟨some 6,none,.mv (.cst (.int .i64 0))⟩])
(.block 0
(.loop [0,1,5,6]
(.seq (.seq (.reg [⟨some 7,none,.mv (.tmp 6)⟩,
⟨some 8,none,.mv (.tmp 0)⟩,
⟨some 9,none,.len .i (.tmp 8)⟩,
⟨some 10,none,.bin .lss .plain (.tmp 7) (.tmp 9)⟩])
(.cond (.tmp 10)
(.skip)
(.brk 0)))
(.seq (.block 1
(.seq (.reg [⟨some 13,none,.mv (.tmp 0)⟩,
⟨some 14,none,.mv (.tmp 6)⟩,
⟨some 15,none,.idxS (.tmp 13) (.tmp 14) 5⟩,
⟨some 16,none,.fad (.tmp 15) 0⟩,
⟨some 17,none,.load (.tmp 16) 1 false⟩,
⟨some 18,none,.mv (.tmp 1)⟩,
⟨some 19,none,.bin .neq .plain (.tmp 17) (.tmp 18)⟩])
(.cond (.tmp 19)
(.reg [⟨some 20,none,.mv (.tmp 5)⟩,
⟨some 21,none,.mv (.tmp 0)⟩,
⟨some 22,none,.mv (.tmp 6)⟩,
⟨some 23,none,.idxS (.tmp 21) (.tmp 22) 5⟩,
⟨some 24,none,.load (.tmp 23) 5 true⟩,
⟨some 25,none,.bsl 1 5 true [(.str ⟨#[]⟩),(.int .i64 0),(.int .i64 0),(.bool false),(.int .u64 0)] [(0,5,(.tmp 24))]⟩,
⟨some 26,none,.app (.tmp 20) (.tmp 25) 5 48 true false⟩,
⟨some 5,none,.mv (.tmp 26)⟩])
(.skip))))
(.reg [⟨some 11,none,.mv (.tmp 6)⟩,
⟨some 12,none,.bin .add .plain (.tmp 11) (.cst (.int .i64 1))⟩,
⟨some 6,none,.mv (.tmp 12)⟩]))))))
(.seq (.reg [⟨some 27,none,.mv (.tmp 5)⟩,
⟨some 4,none,.mv (.tmp 27)⟩])
(.ret))))⟩
theorem tr63 : trF Go.Proofs.Tryd.prog { obj := [],bare := [],loops := [[0,1,5,6]],draws := [],glob := globs,fresh := true } Go.Proofs.Tryd.f63 = some ir63 := by kernel_rfl
def ir64 : IFn := ⟨8,[.cell 2 4 true false],
.seq (.reg [⟨some 1,none,.box (.tmp 0) false⟩,
⟨some 2,none,.allocz [(.int .i64 0),(.int .i64 0),(.bool false),(.int .u64 0)] false⟩])
(.seq (.reg [⟨some 3,none,.fad (.tmp 1) 0⟩,
⟨some 4,none,.load (.tmp 3) 1 false⟩,
⟨some 5,none,.fad (.tmp 1) 1⟩,
⟨some 6,none,.load (.tmp 5) 1 false⟩,
⟨some 7,none,.bld [(.int .i64 0),(.int .i64 0),(.bool false),(.int .u64 0)] [(0,1,(.tmp 4)),(1,1,(.tmp 6))]⟩,
⟨none,none,.store (.tmp 2) (.tmp 7) 4⟩])
(.ret))⟩
theorem tr64 : trF Go.Proofs.Tryd.prog { obj := [],bare := [],loops := [],draws := [],glob := globs,fresh := false } Go.Proofs.Tryd.f64 = some ir64 := by kernel_rfl
def ir65 : IFn := ⟨22,[.tmp 4 false],
.seq (.reg [⟨some 2,none,.box (.tmp 0) false⟩,
⟨some 4,none,.mv (.cst (.int .i64 0))⟩])
(.seq (.seq (.reg [⟨some 5,none,.mv (.cst (.int .i64 0))⟩])
(.block 0
(.loop [1,2,5]
(.seq (.seq (.reg [⟨some 6,none,.mv (.tmp 5)⟩,
⟨some 7,none,.fad (.tmp 2) 1⟩,
⟨some 8,none,.load (.tmp 7) 1 false⟩,
⟨some 9,none,.len .i (.tmp 8)⟩,
⟨some 10,none,.bin .lss .plain (.tmp 6) (.tmp 9)⟩])
(.cond (.tmp 10)
(.skip)
(.brk 0)))
(.seq (.block 1
(.seq (.reg [⟨some 13,none,.fad (.tmp 2) 1⟩,
⟨some 14,none,.load (.tmp 13) 1 false⟩,
⟨some 15,none,.mv (.tmp 5)⟩,
⟨some 16,none,.idxS (.tmp 14) (.tmp 15) 2⟩,
⟨some 17,none,.fad (.tmp 16) 0⟩,
⟨some 18,none,.load (.tmp 17) 1 false⟩,
⟨some 19,none,.mv (.tmp 1)⟩,
⟨some 20,none,.bin .eql .plain (.tmp 18) (.tmp 19)⟩])
(.cond (.tmp 20)
(.seq (.reg [⟨some 21,none,.mv (.tmp 5)⟩,
⟨some 4,none,.mv (.tmp 21)⟩])
(.ret))
(.skip))))
(.reg [⟨some 11,none,.mv (.tmp 5)⟩,
⟨some 12,none,.bin .add .plain (.tmp 11) (.cst (.int .i64 1))⟩,
⟨some 5,none,.mv (.tmp 12)⟩]))))))
(.seq (.reg [⟨some 4,none,.mv (.cst (.int .i64 (-1)))⟩])
(.ret)))⟩
theorem tr65 : trF Go.Proofs.Tryd.prog { obj := [],bare := [],loops := [[1,2,5]],draws := [],glob := globs,fresh := false } Go.Proofs.Tryd.f65 = some ir65 := by kernel_rfl
def ir66 : IFn := ⟨22,[.tmp 4 false,.tmp 5 false],
.seq (.reg [⟨some 2,none,.box (.tmp 0) false⟩,
⟨some 4,none,.mv (.cst (.int .i64 0))⟩,
⟨some 5,none,.mv (.cst (.int .i64 0))⟩])
(.seq (.seq (.reg [⟨some 6,none,.fad (.tmp 2) 0⟩,
⟨some 7,none,.load (.tmp 6) 1 false⟩,
⟨some 8,none,.bin .neq .plain (.tmp 7) (.cst (.int .i64 1))⟩,
⟨some 9,none,.mv (.tmp 8)⟩,
⟨some 10,some (9,false),.fad (.tmp 2) 2⟩,
⟨some 11,some (9,false),.load (.tmp 10) 1 false⟩,
⟨some 12,some (9,false),.un .not (.tmp 11)⟩,
⟨some 13,none,.pick (.tmp 9) (.cst (.bool true)) (.tmp 12)⟩])
(.cond (.tmp 13)
(.seq (.reg [⟨some 4,none,.mv (.cst (.int .i64 0))⟩,
⟨some 5,none,.mv (.cst (.int .i64 1))⟩])
(.ret))
(.skip)))
(.seq (.seq (.reg [⟨some 14,none,.fad (.tmp 2) 3⟩,
⟨some 15,none,.load (.tmp 14) 1 false⟩,
⟨some 16,none,.mv (.tmp 1)⟩,
⟨some 17,none,.cvI .u64 (.tmp 16)⟩,
⟨some 18,none,.bin .geq .plain (.tmp 15) (.tmp 17)⟩])
(.cond (.tmp 18)
(.seq (.reg [⟨some 4,none,.mv (.cst (.int .i64 0))⟩,
⟨some 5,none,.mv (.cst (.int .i64 13))⟩])
(.ret))
(.skip)))
(.seq (.reg [⟨some 19,none,.fad (.tmp 2) 3⟩,
⟨some 20,none,.load (.tmp 19) 1 false⟩,
⟨some 21,none,.cvI .i64 (.tmp 20)⟩,
⟨some 4,none,.mv (.tmp 21)⟩,
⟨some 5,none,.mv (.cst (.int .i64 0))⟩])
(.ret))))⟩
theorem tr66 : trF Go.Proofs.Tryd.prog { obj := [],bare := [],loops := [],draws := [],glob := globs,fresh := false } Go.Proofs.Tryd.f66 = some ir66 := by kernel_rfl
def ir67 : IFn := ⟨126,[.tmp 6 false],
.seq (.reg [⟨some 4,none,.box (.tmp 1) false⟩,
⟨some 5,none,.box (.tmp 2) false⟩,
⟨some 6,none,.mv (.cst (.int .i64 0))⟩])
(.seq (.seq (.reg [⟨some 14,none,.fad (.tmp 5) 0⟩,
⟨some 15,none,.load (.tmp 14) 1 false⟩,
⟨some 16,none,.bin .neq .plain (.tmp 15) (.cst (.int .i64 2))⟩])
(.cond (.tmp 16)
(.seq (.reg [⟨some 6,none,.mv (.cst (.int .i64 5))⟩])
(.ret))
(.skip)))
(.seq (.draw [(⟨some 17,none,.bsl 0 5 true [(.str ⟨#[]⟩),(.int .i64 0),(.int .i64 0),(.bool false),(.int .u64 0)] []⟩,0,[]),
(⟨some 18,none,.mv (.tmp 0)⟩,1,[]),
(⟨some 19,none,.nilc (.tmp 18)⟩,2,[]),
(⟨some 20,none,.fad (.tmp 19) 3⟩,3,[]),
(⟨some 21,none,.load (.tmp 20) 1 false⟩,4,[]),
(⟨some 23,none,.mv (.tmp 0)⟩,6,[]),
(⟨some 24,none,.nilc (.tmp 23)⟩,7,[]),
(⟨some 25,none,.fad (.tmp 24) 5⟩,8,[]),
(⟨some 26,none,.load (.tmp 25) 1 false⟩,9,[]),
(⟨some 22,none,.app (.tmp 17) (.tmp 21) 5 48 true false⟩,5,[8]),
(⟨some 27,none,.call 83 [(.tmp 26)]⟩,10,[]),
(⟨some 7,none,.mv (.tmp 22)⟩,11,[]),
(⟨some 8,none,.mv (.tmp 27)⟩,12,[])])
(.seq (.reg [⟨some 28,none,.mv (.tmp 0)⟩,
⟨some 29,none,.nilc (.tmp 28)⟩,
⟨some 30,none,.fad (.tmp 29) 8⟩,
⟨some 31,none,.load (.tmp 30) 1 false⟩,
⟨some 32,none,.bin .add .plain (.tmp 31) (.cst (.int .i64 1))⟩,
⟨some 33,none,.nilc (.tmp 28)⟩,
⟨some 34,none,.fad (.tmp 33) 8⟩,
⟨none,none,.store (.tmp 34) (.tmp 32) 1⟩])
(.seq (.reg [⟨some 35,none,.mv (.tmp 0)⟩,
⟨some 36,none,.fad (.tmp 4) 3⟩,
⟨some 37,none,.load (.tmp 36) 1 false⟩,
⟨some 38,none,.call 39 [(.tmp 35),(.tmp 37)]⟩,
⟨some 9,none,.mv (.tmp 38)⟩])
(.seq (.seq (.reg [⟨some 39,none,.mv (.tmp 9)⟩,
⟨some 40,none,.bin .neq .plain (.tmp 39) (.cst (.int .i64 0))⟩])
(.cond (.tmp 40)
(.seq (.reg [⟨some 41,none,.mv (.tmp 9)⟩,
⟨some 6,none,.mv (.tmp 41)⟩])
(.ret))
(.skip)))
(.seq (.draw [(⟨some 42,none,.mv (.tmp 0)⟩,0,[]),
(⟨some 43,none,.nilc (.tmp 42)⟩,1,[]),
(⟨some 44,none,.fad (.tmp 43) 3⟩,2,[]),
(⟨some 45,none,.load (.tmp 44) 1 false⟩,3,[]),
(⟨some 46,none,.mv (.tmp 0)⟩,4,[]),
(⟨some 47,none,.nilc (.tmp 46)⟩,5,[]),
(⟨some 48,none,.fad (.tmp 47) 5⟩,6,[]),
(⟨some 49,none,.load (.tmp 48) 1 false⟩,7,[]),
(⟨some 10,none,.mv (.tmp 45)⟩,8,[]),
(⟨some 11,none,.mv (.tmp 49)⟩,9,[])])
(.seq (.reg [⟨some 50,none,.mv (.tmp 0)⟩,
⟨some 51,none,.mv (.tmp 0)⟩,
⟨some 52,none,.bsl 0 5 true [(.str ⟨#[]⟩),(.int .i64 0),(.int .i64 0),(.bool false),(.int .u64 0)] []⟩,
⟨some 53,none,.mv (.tmp 7)⟩,
⟨some 54,none,.app (.tmp 52) (.tmp 53) 5 48 true false⟩,
⟨some 55,none,.mv (.tmp 8)⟩,
⟨some 56,none,.nilc (.tmp 50)⟩,
⟨some 57,none,.fad (.tmp 56) 3⟩,
⟨none,none,.store (.tmp 57) (.tmp 54) 1⟩,
⟨some 58,none,.nilc (.tmp 51)⟩,
⟨some 59,none,.fad (.tmp 58) 5⟩,
⟨none,none,.store (.tmp 59) (.tmp 55) 1⟩])
(.seq (.reg [⟨some 60,none,.mv (.tmp 0)⟩,
⟨some 61,none,.fad (.tmp 4) 4⟩,
⟨some 62,none,.load (.tmp 61) 1 false⟩,
⟨some 63,none,.call 39 [(.tmp 60),(.tmp 62)]⟩,
⟨some 9,none,.mv (.tmp 63)⟩])
(.seq (.seq (.reg [⟨some 64,none,.mv (.tmp 9)⟩,
⟨some 65,none,.bin .neq .plain (.tmp 64) (.cst (.int .i64 0))⟩])
(.cond (.tmp 65)
(.seq (.reg [⟨some 66,none,.mv (.tmp 9)⟩,
⟨some 6,none,.mv (.tmp 66)⟩])
(.ret))
(.skip)))
(.seq (.reg [⟨some 67,none,.mv (.tmp 0)⟩,
⟨some 68,none,.nilc (.tmp 67)⟩,
⟨some 69,none,.fad (.tmp 68) 8⟩,
⟨some 70,none,.load (.tmp 69) 1 false⟩,
⟨some 71,none,.bin .sub .plain (.tmp 70) (.cst (.int .i64 1))⟩,
⟨some 72,none,.nilc (.tmp 67)⟩,
⟨some 73,none,.fad (.tmp 72) 8⟩,
⟨none,none,.store (.tmp 73) (.tmp 71) 1⟩])
(.seq (.reg [⟨some 74,none,.mv (.tmp 0)⟩,
⟨some 75,none,.mv (.tmp 7)⟩,
⟨some 76,none,.mv (.tmp 10)⟩,
⟨some 77,none,.mv (.tmp 0)⟩,
⟨some 78,none,.nilc (.tmp 77)⟩,
⟨some 79,none,.fad (.tmp 78) 3⟩,
⟨some 80,none,.load (.tmp 79) 1 false⟩,
⟨some 81,none,.call 84 [(.tmp 75),(.tmp 76),(.tmp 80)]⟩,
⟨some 82,none,.nilc (.tmp 74)⟩,
⟨some 83,none,.fad (.tmp 82) 3⟩,
⟨none,none,.store (.tmp 83) (.tmp 81) 1⟩])
(.seq (.seq (.reg [⟨some 12,none,.mv (.cst (.int .i64 0))⟩])
(.block 0
(.loop [0,11,12]
(.seq (.seq (.reg [⟨some 84,none,.mv (.tmp 12)⟩,
⟨some 85,none,.mv (.tmp 11)⟩,
⟨some 86,none,.len .i (.tmp 85)⟩,
⟨some 87,none,.bin .lss .plain (.tmp 84) (.tmp 86)⟩])
(.cond (.tmp 87)
(.skip)
(.brk 0)))
(.seq (.block 1
(.seq (.reg [⟨some 13,none,.mv (.cst (.int .i64 0))⟩])
(.block 2
(.loop [0,11,12,13]
(.seq (.seq (.reg [⟨some 90,none,.mv (.tmp 13)⟩,
⟨some 91,none,.mv (.tmp 11)⟩,
⟨some 92,none,.mv (.tmp 12)⟩,
⟨some 93,none,.idxS (.tmp 91) (.tmp 92) 1⟩,
⟨some 94,none,.load (.tmp 93) 1 false⟩,
⟨some 95,none,.len .i (.tmp 94)⟩,
⟨some 96,none,.bin .lss .plain (.tmp 90) (.tmp 95)⟩])
(.cond (.tmp 96)
(.skip)
(.brk 2)))
(.seq (.block 3
(.draw [(⟨some 99,none,.mv (.tmp 0)⟩,0,[]),
(⟨some 100,none,.nilc (.tmp 99)⟩,1,[]),
(⟨some 101,none,.fad (.tmp 100) 5⟩,2,[]),
(⟨some 102,none,.load (.tmp 101) 1 false⟩,3,[]),
(⟨some 103,none,.mv (.tmp 12)⟩,4,[]),
(⟨some 104,none,.idxS (.tmp 102) (.tmp 103) 1⟩,5,[]),
(⟨some 105,none,.load (.tmp 104) 1 false⟩,6,[]),
(⟨some 106,none,.mv (.tmp 13)⟩,7,[]),
(⟨some 107,none,.mv (.tmp 0)⟩,8,[]),
(⟨some 108,none,.nilc (.tmp 107)⟩,9,[]),
(⟨some 109,none,.fad (.tmp 108) 5⟩,10,[]),
(⟨some 110,none,.load (.tmp 109) 1 false⟩,11,[]),
(⟨some 111,none,.mv (.tmp 12)⟩,12,[]),
(⟨some 112,none,.idxS (.tmp 110) (.tmp 111) 1⟩,13,[]),
(⟨some 113,none,.load (.tmp 112) 1 false⟩,14,[]),
(⟨some 114,none,.mv (.tmp 13)⟩,15,[]),
(⟨some 115,none,.idxS (.tmp 113) (.tmp 114) 1⟩,16,[]),
(⟨some 116,none,.load (.tmp 115) 1 false⟩,17,[]),
(⟨some 117,none,.mv (.tmp 11)⟩,18,[]),
(⟨some 118,none,.mv (.tmp 12)⟩,19,[]),
(⟨some 119,none,.idxS (.tmp 117) (.tmp 118) 1⟩,20,[]),
(⟨some 120,none,.load (.tmp 119) 1 false⟩,21,[]),
(⟨some 121,none,.mv (.tmp 13)⟩,22,[]),
(⟨some 122,none,.idxS (.tmp 120) (.tmp 121) 1⟩,23,[]),
(⟨some 123,none,.load (.tmp 122) 1 false⟩,24,[]),
(⟨some 124,none,.max [(.tmp 116),(.tmp 123)]⟩,25,[]),
(⟨some 125,none,.idxS (.tmp 105) (.tmp 106) 1⟩,26,[]),
(⟨none,none,.store (.tmp 125) (.tmp 124) 1⟩,27,[])]))
(.reg [⟨some 97,none,.mv (.tmp 13)⟩,
⟨some 98,none,.bin .add .plain (.tmp 97) (.cst (.int .i64 1))⟩,
⟨some 13,none,.mv (.tmp 98)⟩])))))))
(.reg [⟨some 88,none,.mv (.tmp 12)⟩,
⟨some 89,none,.bin .add .plain (.tmp 88) (.cst (.int .i64 1))⟩,
⟨some 12,none,.mv (.tmp 89)⟩]))))))
(.seq (.reg [⟨some 6,none,.mv (.cst (.int .i64 0))⟩])
(.ret))))))))))))))⟩
theorem tr67 : trF Go.Proofs.Tryd.prog { obj := [],bare := [],loops := [[0,11,12],[0,11,12,13]],draws := [(3,([0,0,2,6,14,31,0,64,192,448,1023,2047,4095],[(0,[]),(1,[]),(2,[]),(3,[]),(4,[]),(6,[]),(7,[]),(8,[]),(9,[]),(5,[8]),(10,[]),(11,[]),(12,[])])),(8,([0,1,3,7,0,16,48,112,15,511],[(0,[]),(1,[]),(2,[]),(3,[]),(4,[]),(5,[]),(6,[]),(7,[]),(8,[]),(9,[])])),(21,([0,1,3,7,0,31,63,0,0,256,768,1792,0,7936,16128,0,65280,130816,0,0,786432,1835008,0,8126464,16515072,33554176,67108863,134217727],[(0,[]),(1,[]),(2,[]),(3,[]),(4,[]),(5,[]),(6,[]),(7,[]),(8,[]),(9,[]),(10,[]),(11,[]),(12,[]),(13,[]),(14,[]),(15,[]),(16,[]),(17,[]),(18,[]),(19,[]),(20,[]),(21,[]),(22,[]),(23,[]),(24,[]),(25,[]),(26,[]),(27,[])]))],glob := globs,fresh := false } Go.Proofs.Tryd.f67 = some ir67 := by kernel_rfl
def ir68 : IFn := ⟨85,[.tmp 8 false],
.seq (.reg [⟨some 5,none,.box (.tmp 1) false⟩,
⟨some 6,none,.box (.tmp 2) false⟩,
⟨some 7,none,.box (.tmp 3) false⟩,
⟨some 8,none,.mv (.cst (.int .i64 0))⟩])
(.seq (.seq (.reg [⟨some 12,none,.fad (.tmp 6) 0⟩,
⟨some 13,none,.load (.tmp 12) 1 false⟩,
⟨some 14,none,.bin .neq .plain (.tmp 13) (.cst (.int .i64 1))⟩,
⟨some 15,none,.mv (.tmp 14)⟩,
⟨some 16,some (15,false),.fad (.tmp 7) 0⟩,
⟨some 17,some (15,false),.load (.tmp 16) 1 false⟩,
⟨some 18,some (15,false),.bin .neq .plain (.tmp 17) (.cst (.int .i64 1))⟩,
⟨some 19,none,.pick (.tmp 15) (.cst (.bool true)) (.tmp 18)⟩,
⟨some 20,none,.mv (.tmp 19)⟩,
⟨some 21,some (20,false),.fad (.tmp 6) 2⟩,
⟨some 22,some (20,false),.load (.tmp 21) 1 false⟩,
⟨some 23,some (20,false),.un .not (.tmp 22)⟩,
⟨some 24,none,.pick (.tmp 20) (.cst (.bool true)) (.tmp 23)⟩,
⟨some 25,none,.mv (.tmp 24)⟩,
⟨some 26,some (25,false),.fad (.tmp 7) 2⟩,
⟨some 27,some (25,false),.load (.tmp 26) 1 false⟩,
⟨some 28,some (25,false),.un .not (.tmp 27)⟩,
⟨some 29,none,.pick (.tmp 25) (.cst (.bool true)) (.tmp 28)⟩])
(.cond (.tmp 29)
(.seq (.reg [⟨some 8,none,.mv (.cst (.int .i64 1))⟩])
(.ret))
(.skip)))
(.seq (.seq (.reg [⟨some 30,none,.mv (.tmp 0)⟩,
⟨some 31,none,.fad (.tmp 5) 1⟩,
⟨some 32,none,.load (.tmp 31) 1 false⟩,
⟨some 33,none,.call 62 [(.tmp 30),(.tmp 32)]⟩])
(.cond (.tmp 33)
(.seq (.reg [⟨some 8,none,.mv (.cst (.int .i64 4))⟩])
(.ret))
(.skip)))
(.seq (.draw [(⟨some 34,none,.mv (.tmp 0)⟩,0,[]),
(⟨some 35,none,.mv (.tmp 0)⟩,1,[]),
(⟨some 36,none,.nilc (.tmp 35)⟩,2,[]),
(⟨some 37,none,.fad (.tmp 36) 3⟩,3,[]),
(⟨some 38,none,.load (.tmp 37) 1 false⟩,4,[]),
(⟨some 39,none,.fad (.tmp 5) 1⟩,5,[]),
(⟨some 40,none,.load (.tmp 39) 1 false⟩,6,[]),
(⟨some 41,none,.call 63 [(.tmp 38),(.tmp 40)]⟩,7,[]),
(⟨some 42,none,.nilc (.tmp 34)⟩,8,[]),
(⟨some 43,none,.fad (.tmp 42) 3⟩,9,[]),
(⟨none,none,.store (.tmp 43) (.tmp 41) 1⟩,10,[])])
(.seq (.seq (.reg [⟨some 44,none,.fad (.tmp 6) 3⟩,
⟨some 45,none,.load (.tmp 44) 1 false⟩,
⟨some 9,none,.mv (.tmp 45)⟩])
(.block 0
(.loop [0,5,7,9]
(.seq (.seq (.reg [⟨some 46,none,.mv (.tmp 9)⟩,
⟨some 47,none,.fad (.tmp 7) 3⟩,
⟨some 48,none,.load (.tmp 47) 1 false⟩,
⟨some 49,none,.bin .leq .plain (.tmp 46) (.tmp 48)⟩])
(.cond (.tmp 49)
(.skip)
(.brk 0)))
(.seq (.block 1
(.seq (.reg [⟨some 52,none,.mv (.tmp 0)⟩,
⟨some 53,none,.call 60 [(.tmp 52)]⟩,
⟨some 10,none,.mv (.tmp 53)⟩])
(.seq (.seq (.reg [⟨some 54,none,.mv (.tmp 10)⟩,
⟨some 55,none,.bin .neq .plain (.tmp 54) (.cst (.int .i64 0))⟩])
(.cond (.tmp 55)
(.seq (.reg [⟨some 56,none,.mv (.tmp 10)⟩,
⟨some 8,none,.mv (.tmp 56)⟩])
(.ret))
(.skip)))
(.seq (.reg [⟨some 57,none,.mv (.tmp 0)⟩,
⟨some 58,none,.nilc (.tmp 57)⟩,
⟨some 59,none,.fad (.tmp 58) 4⟩,
⟨some 60,none,.load (.tmp 59) 1 false⟩,
⟨some 11,none,.mv (.tmp 60)⟩])
(.seq (.draw [(⟨some 61,none,.mv (.tmp 0)⟩,0,[]),
(⟨some 62,none,.bsl 0 5 true [(.str ⟨#[]⟩),(.int .i64 0),(.int .i64 0),(.bool false),(.int .u64 0)] []⟩,1,[]),
(⟨some 63,none,.mv (.tmp 11)⟩,2,[]),
(⟨some 65,none,.fad (.tmp 5) 1⟩,4,[]),
(⟨some 66,none,.load (.tmp 65) 1 false⟩,5,[]),
(⟨some 67,none,.mv (.tmp 9)⟩,6,[]),
(⟨some 64,none,.app (.tmp 62) (.tmp 63) 5 48 true false⟩,3,[4]),
(⟨some 68,none,.call 85 [(.tmp 67)]⟩,7,[4]),
(⟨some 69,none,.bld [(.str ⟨#[]⟩),(.int .i64 0),(.int .i64 0),(.bool false),(.int .u64 0)] [(0,1,(.tmp 66)),(1,4,(.tmp 68))]⟩,8,[]),
(⟨some 70,none,.bsl 1 5 true [(.str ⟨#[]⟩),(.int .i64 0),(.int .i64 0),(.bool false),(.int .u64 0)] [(0,5,(.tmp 69))]⟩,9,[]),
(⟨some 71,none,.app (.tmp 64) (.tmp 70) 5 48 true false⟩,10,[]),
(⟨some 72,none,.nilc (.tmp 61)⟩,11,[]),
(⟨some 73,none,.fad (.tmp 72) 4⟩,12,[]),
(⟨none,none,.store (.tmp 73) (.tmp 71) 1⟩,13,[])])
(.seq (.reg [⟨some 74,none,.mv (.tmp 0)⟩,
⟨some 75,none,.fad (.tmp 5) 3⟩,
⟨some 76,none,.load (.tmp 75) 1 false⟩,
⟨some 77,none,.call 39 [(.tmp 74),(.tmp 76)]⟩,
⟨some 10,none,.mv (.tmp 77)⟩])
(.seq (.seq (.reg [⟨some 78,none,.mv (.tmp 10)⟩,
⟨some 79,none,.bin .neq .plain (.tmp 78) (.cst (.int .i64 0))⟩])
(.cond (.tmp 79)
(.seq (.reg [⟨some 80,none,.mv (.tmp 10)⟩,
⟨some 8,none,.mv (.tmp 80)⟩])
(.ret))
(.skip)))
(.reg [⟨some 81,none,.mv (.tmp 0)⟩,
⟨some 82,none,.mv (.tmp 11)⟩,
⟨some 83,none,.nilc (.tmp 81)⟩,
⟨some 84,none,.fad (.tmp 83) 4⟩,
⟨none,none,.store (.tmp 84) (.tmp 82) 1⟩]))))))))
(.reg [⟨some 50,none,.mv (.tmp 9)⟩,
⟨some 51,none,.bin .add .plain (.tmp 50) (.cst (.int .u64 1))⟩,
⟨some 9,none,.mv (.tmp 51)⟩]))))))
(.seq (.reg [⟨some 8,none,.mv (.cst (.int .i64 0))⟩])
(.ret))))))⟩
theorem tr68 : trF Go.Proofs.Tryd.prog { obj := [],bare := [],loops := [[0,5,7,9]],draws := [(5,([0,0,2,6,14,0,32,126,255,511,1023],[(0,[]),(1,[]),(2,[]),(3,[]),(4,[]),(5,[]),(6,[]),(7,[]),(8,[]),(9,[]),(10,[])])),(13,([0,0,0,6,0,16,0,78,254,510,1022,2047,4095,8191],[(0,[]),(1,[]),(2,[]),(4,[]),(5,[]),(6,[]),(3,[4]),(7,[4]),(8,[]),(9,[]),(10,[]),(11,[]),(12,[]),(13,[])]))],glob := globs,fresh := false } Go.Proofs.Tryd.f68 = some ir68 := by kernel_rfl
def ir69 : IFn := ⟨15,[.tmp 2 false],
.seq (.reg [⟨some 1,none,.box (.tmp 0) false⟩,
⟨some 2,none,.mv (.cst (.int .i64 0))⟩])
(.seq (.seq (.reg [⟨some 3,none,.fad (.tmp 1) 0⟩,
⟨some 4,none,.load (.tmp 3) 1 false⟩])
(.block 0
(.seq (.seq (.reg [⟨some 6,none,.bin .eql .plain (.tmp 4) (.cst (.int .i64 1))⟩,
⟨some 5,none,.mv (.tmp 6)⟩])
(.cond (.tmp 5)
(.skip)
(.reg [⟨some 7,none,.bin .eql .plain (.tmp 4) (.cst (.int .i64 2))⟩,
⟨some 5,none,.mv (.tmp 7)⟩])))
(.cond (.tmp 5)
(.seq (.reg [⟨some 2,none,.mv (.cst (.int .i64 0))⟩])
(.ret))
(.seq (.seq (.reg [⟨some 9,none,.bin .eql .plain (.tmp 4) (.cst (.int .i64 3))⟩,
⟨some 8,none,.mv (.tmp 9)⟩])
(.cond (.tmp 8)
(.skip)
(.reg [⟨some 10,none,.bin .eql .plain (.tmp 4) (.cst (.int .i64 5))⟩,
⟨some 8,none,.mv (.tmp 10)⟩])))
(.cond (.tmp 8)
(.seq (.reg [⟨some 2,none,.mv (.cst (.int .i64 1))⟩])
(.ret))
(.seq (.reg [⟨some 12,none,.bin .eql .plain (.tmp 4) (.cst (.int .i64 4))⟩,
⟨some 11,none,.mv (.tmp 12)⟩])
(.cond (.tmp 11)
(.seq (.reg [⟨some 2,none,.mv (.cst (.int .i64 2))⟩])
(.ret))
(.seq (.reg [⟨some 14,none,.bin .eql .plain (.tmp 4) (.cst (.int .i64 6))⟩,
⟨some 13,none,.mv (.tmp 14)⟩])
(.cond (.tmp 13)
(.seq (.reg [⟨some 2,none,.mv (.cst (.int .i64 3))⟩])
(.ret))
(.skip)))))))))))
(.seq (.reg [⟨some 2,none,.mv (.cst (.int .i64 (-1)))⟩])
(.ret)))⟩
theorem tr69 : trF Go.Proofs.Tryd.prog { obj := [],bare := [],loops := [],draws := [],glob := globs,fresh := false } Go.Proofs.Tryd.f69 = some ir69 := by kernel_rfl
def ir70 : IFn := ⟨15,[.tmp 4 false],
.seq (.reg [⟨some 2,none,.box (.tmp 0) false⟩,
⟨some 4,none,.mv (.cst (.str ⟨#[]⟩))⟩])
(.seq (.seq (.reg [⟨some 5,none,.load (.tmp 2) 5 true⟩,
⟨some 6,none,.call 71 [(.tmp 5)]⟩,
⟨some 7,none,.mv (.tmp 1)⟩,
⟨some 8,none,.bin .lss .plain (.tmp 6) (.tmp 7)⟩])
(.cond (.tmp 8)
(.seq (.reg [⟨some 9,none,.load (.tmp 2) 5 true⟩,
⟨some 10,none,.call 54 [(.tmp 9)]⟩,
⟨some 11,none,.bin .add .plain (.cst (.str ⟨#[40]⟩)) (.tmp 10)⟩,
⟨some 12,none,.bin .add .plain (.tmp 11) (.cst (.str ⟨#[41]⟩))⟩,
⟨some 4,none,.mv (.tmp 12)⟩])
(.ret))
(.skip)))
(.seq (.reg [⟨some 13,none,.load (.tmp 2) 5 true⟩,
⟨some 14,none,.call 54 [(.tmp 13)]⟩,
⟨some 4,none,.mv (.tmp 14)⟩])
(.ret)))⟩
theorem tr70 : trF Go.Proofs.Tryd.prog { obj := [],bare := [],loops := [],draws := [],glob := globs,fresh := false } Go.Proofs.Tryd.f70 = some ir70 := by kernel_rfl
def ir71 : IFn := ⟨23,[.tmp 2 false],
.seq (.reg [⟨some 1,none,.box (.tmp 0) false⟩,
⟨some 2,none,.mv (.cst (.int .i64 0))⟩])
(.seq (.seq (.reg [⟨some 3,none,.fad (.tmp 1) 0⟩,
⟨some 4,none,.load (.tmp 3) 1 false⟩])
(.block 0
(.seq (.reg [⟨some 6,none,.bin .eql .plain (.tmp 4) (.cst (.int .i64 6))⟩,
⟨some 5,none,.mv (.tmp 6)⟩])
(.cond (.tmp 5)
(.seq (.reg [⟨some 2,none,.mv (.cst (.int .i64 1))⟩])
(.ret))
(.seq (.reg [⟨some 8,none,.bin .eql .plain (.tmp 4) (.cst (.int .i64 5))⟩,
⟨some 7,none,.mv (.tmp 8)⟩])
(.cond (.tmp 7)
(.seq (.reg [⟨some 2,none,.mv (.cst (.int .i64 8))⟩])
(.ret))
(.seq (.reg [⟨some 10,none,.bin .eql .plain (.tmp 4) (.cst (.int .i64 4))⟩,
⟨some 9,none,.mv (.tmp 10)⟩])
(.cond (.tmp 9)
(.seq (.seq (.reg [⟨some 11,none,.fad (.tmp 1) 1⟩,
⟨some 12,none,.load (.tmp 11) 1 false⟩])
(.block 1
(.seq (.reg [⟨some 14,none,.bin .eql .plain (.tmp 12) (.cst (.int .i64 7))⟩,
⟨some 13,none,.mv (.tmp 14)⟩])
(.cond (.tmp 13)
(.seq (.reg [⟨some 2,none,.mv (.cst (.int .i64 2))⟩])
(.ret))
(.seq (.reg [⟨some 16,none,.bin .eql .plain (.tmp 12) (.cst (.int .i64 6))⟩,
⟨some 15,none,.mv (.tmp 16)⟩])
(.cond (.tmp 15)
(.seq (.reg [⟨some 2,none,.mv (.cst (.int .i64 3))⟩])
(.ret))
(.seq (.reg [⟨some 18,none,.bin .eql .plain (.tmp 12) (.cst (.int .i64 5))⟩,
⟨some 17,none,.mv (.tmp 18)⟩])
(.cond (.tmp 17)
(.seq (.reg [⟨some 2,none,.mv (.cst (.int .i64 4))⟩])
(.ret))
(.seq (.reg [⟨some 20,none,.bin .eql .plain (.tmp 12) (.cst (.int .i64 4))⟩,
⟨some 19,none,.mv (.tmp 20)⟩])
(.cond (.tmp 19)
(.seq (.reg [⟨some 2,none,.mv (.cst (.int .i64 5))⟩])
(.ret))
(.seq (.reg [⟨some 22,none,.bin .eql .plain (.tmp 12) (.cst (.int .i64 3))⟩,
⟨some 21,none,.mv (.tmp 22)⟩])
(.cond (.tmp 21)
(.seq (.reg [⟨some 2,none,.mv (.cst (.int .i64 7))⟩])
(.ret))
(.skip)))))))))))))
(.seq (.reg [⟨some 2,none,.mv (.cst (.int .i64 6))⟩])
(.ret)))
(.skip)))))))))
(.seq (.reg [⟨some 2,none,.mv (.cst (.int .i64 9))⟩])
(.ret)))⟩
theorem tr71 : trF Go.Proofs.Tryd.prog { obj := [],bare := [],loops := [],draws := [],glob := globs,fresh := false } Go.Proofs.Tryd.f71 = some ir71 := by kernel_rfl
def ir72 : IFn := ⟨10,[.tmp 2 false],
.seq (.reg [⟨some 2,none,.mv (.cst (.str ⟨#[]⟩))⟩])
(.seq (.reg [⟨some 4,none,.bsl 7 1 false [(.str ⟨#[]⟩)] [(0,1,(.cst (.str ⟨#[43]⟩))),(1,1,(.cst (.str ⟨#[45]⟩))),(2,1,(.cst (.str ⟨#[42]⟩))),(3,1,(.cst (.str ⟨#[60]⟩))),(4,1,(.cst (.str ⟨#[61,61]⟩))),(5,1,(.cst (.str ⟨#[38]⟩))),(6,1,(.cst (.str ⟨#[124]⟩)))]⟩,
⟨some 3,none,.mv (.tmp 4)⟩])
(.seq (.reg [⟨some 5,none,.mv (.tmp 3)⟩,
⟨some 6,none,.mv (.tmp 0)⟩,
⟨some 7,none,.bin .sub .plain (.tmp 6) (.cst (.int .i64 1))⟩,
⟨some 8,none,.idxS (.tmp 5) (.tmp 7) 1⟩,
⟨some 9,none,.load (.tmp 8) 1 false⟩,
⟨some 2,none,.mv (.tmp 9)⟩])
(.ret)))⟩
theorem tr72 : trF Go.Proofs.Tryd.prog { obj := [],bare := [],loops := [],draws := [],glob := globs,fresh := false } Go.Proofs.Tryd.f72 = some ir72 := by kernel_rfl
def ir74 : IFn := ⟨20,[.tmp 2 false],
.seq (.reg [⟨some 2,none,.mv (.cst .nilmap)⟩])
(.seq (.reg [⟨some 6,none,.mkM⟩,
⟨some 3,none,.mv (.tmp 6)⟩])
(.seq (.seq (.reg [⟨some 7,none,.mv (.tmp 0)⟩,
⟨some 8,none,.rng (.tmp 7)⟩])
(.block 0
(.loop [3,8]
(.seq (.reg [⟨some 9,none,.nxt (.tmp 8)⟩,
⟨some 10,none,.ext (.tmp 9) 0⟩])
(.seq (.cond (.tmp 10)
(.skip)
(.brk 0))
(.block 1
(.seq (.reg [⟨some 11,none,.ent (.tmp 8)⟩,
⟨some 12,none,.ext (.tmp 11) 0⟩,
⟨some 13,none,.ext (.tmp 11) 1⟩,
⟨some 4,none,.mv (.tmp 12)⟩,
⟨some 5,none,.mv (.tmp 13)⟩])
(.reg [⟨some 14,none,.mv (.tmp 3)⟩,
⟨some 15,none,.mv (.tmp 4)⟩,
⟨some 16,none,.bsl 0 1 false [(.int .i64 0)] []⟩,
⟨some 17,none,.mv (.tmp 5)⟩,
⟨some 18,none,.app (.tmp 16) (.tmp 17) 1 8 false true⟩,
⟨none,none,.mup .s (.tmp 14) (.tmp 15) (.tmp 18)⟩]))))))))
(.seq (.reg [⟨some 19,none,.mv (.tmp 3)⟩,
⟨some 2,none,.mv (.tmp 19)⟩])
(.ret))))⟩
theorem tr74 : trF Go.Proofs.Tryd.prog { obj := [18],bare := [],loops := [[3,8]],draws := [],glob := globs,fresh := false } Go.Proofs.Tryd.f74 = some ir74 := by kernel_rfl
def ir75 : IFn := ⟨7,[.cell 2 4 true false],
.seq (.reg [⟨some 2,none,.allocz [(.int .i64 0),(.int .i64 0),(.bool false),(.int .u64 0)] false⟩])
(.seq (.reg [⟨some 3,none,.mv (.tmp 0)⟩,
⟨some 4,none,.call 87 [(.tmp 3)]⟩,
⟨some 5,none,.mv (.tmp 0)⟩,
⟨some 6,none,.bld [(.int .i64 0),(.int .i64 0),(.bool false),(.int .u64 0)] [(0,1,(.cst (.int .i64 1))),(1,1,(.tmp 4)),(2,1,(.cst (.bool true))),(3,1,(.tmp 5))]⟩,
⟨none,none,.store (.tmp 2) (.tmp 6) 4⟩])
(.ret))⟩
theorem tr75 : trF Go.Proofs.Tryd.prog { obj := [],bare := [],loops := [],draws := [],glob := globs,fresh := false } Go.Proofs.Tryd.f75 = some ir75 := by kernel_rfl
def ir76 : IFn := ⟨23,[.cell 4 4 true false],
.seq (.reg [⟨some 3,none,.box (.tmp 1) false⟩,
⟨some 4,none,.allocz [(.int .i64 0),(.int .i64 0),(.bool false),(.int .u64 0)] false⟩])
(.seq (.seq (.reg [⟨some 5,none,.fad (.tmp 3) 0⟩,
⟨some 6,none,.load (.tmp 5) 1 false⟩,
⟨some 7,none,.bin .eql .plain (.tmp 6) (.cst (.int .i64 1))⟩])
(.cond (.tmp 7)
(.seq (.seq (.reg [⟨some 8,none,.fad (.tmp 3) 1⟩,
⟨some 9,none,.load (.tmp 8) 1 false⟩,
⟨some 10,none,.bin .gtr .plain (.tmp 9) (.cst (.int .i64 60))⟩])
(.cond (.tmp 10)
(.reg [⟨some 11,none,.call 36 [(.cst (.int .i64 11))]⟩])
(.skip)))
(.draw [(⟨some 12,none,.mv (.tmp 0)⟩,0,[]),
(⟨some 13,none,.mv (.tmp 0)⟩,1,[]),
(⟨some 14,none,.nilc (.tmp 13)⟩,2,[]),
(⟨some 15,none,.fad (.tmp 14) 6⟩,3,[]),
(⟨some 16,none,.load (.tmp 15) 1 false⟩,4,[]),
(⟨some 17,none,.fad (.tmp 3) 1⟩,5,[]),
(⟨some 18,none,.load (.tmp 17) 1 false⟩,6,[]),
(⟨some 19,none,.max [(.tmp 16),(.tmp 18)]⟩,7,[]),
(⟨some 20,none,.nilc (.tmp 12)⟩,8,[]),
(⟨some 21,none,.fad (.tmp 20) 6⟩,9,[]),
(⟨none,none,.store (.tmp 21) (.tmp 19) 1⟩,10,[])]))
(.skip)))
(.seq (.reg [⟨some 22,none,.load (.tmp 3) 4 true⟩,
⟨none,none,.store (.tmp 4) (.tmp 22) 4⟩])
(.ret)))⟩
theorem tr76 : trF Go.Proofs.Tryd.prog { obj := [],bare := [],loops := [],draws := [(4,([0,0,2,6,14,0,32,126,255,511,1023],[(0,[]),(1,[]),(2,[]),(3,[]),(4,[]),(5,[]),(6,[]),(7,[]),(8,[]),(9,[]),(10,[])]))],glob := globs,fresh := false } Go.Proofs.Tryd.f76 = some ir76 := by kernel_rfl
def ir77 : IFn := ⟨53,[.cell 4 4 true false],
.seq (.reg [⟨some 4,none,.allocz [(.int .i64 0),(.int .i64 0),(.bool false),(.int .u64 0)] false⟩])
(.seq (.seq (.reg [⟨some 12,none,.mv (.tmp 0)⟩,
⟨some 13,none,.nilc (.tmp 12)⟩,
⟨some 14,none,.fad (.tmp 13) 4⟩,
⟨some 15,none,.load (.tmp 14) 1 false⟩,
⟨some 16,none,.mv (.tmp 1)⟩,
⟨some 17,none,.lkp .s (.tmp 15) (.tmp 16) (.agg [(.int .i64 0),(.int .i64 0),(.bool false),(.int .u64 0)]) true⟩,
⟨some 11,none,.mv (.tmp 17)⟩,
⟨some 18,none,.ext (.tmp 11) 0⟩,
⟨some 19,none,.ext (.tmp 11) 1⟩,
⟨some 5,none,.allocz [(.int .i64 0),(.int .i64 0),(.bool false),(.int .u64 0)] false⟩,
⟨none,none,.store (.tmp 5) (.tmp 18) 4⟩,
⟨some 6,none,.mv (.tmp 19)⟩])
(.seq (.reg [⟨some 20,none,.mv (.tmp 6)⟩])
(.cond (.tmp 20)
(.seq (.reg [⟨some 21,none,.load (.tmp 5) 4 true⟩,
⟨none,none,.store (.tmp 4) (.tmp 21) 4⟩])
(.ret))
(.skip))))
(.seq (.seq (.reg [⟨some 23,none,.mv (.tmp 0)⟩,
⟨some 24,none,.nilc (.tmp 23)⟩,
⟨some 25,none,.fad (.tmp 24) 2⟩,
⟨some 26,none,.load (.tmp 25) 1 false⟩,
⟨some 27,none,.mv (.tmp 1)⟩,
⟨some 28,none,.lkp .s (.tmp 26) (.tmp 27) (.agg [(.int .i64 0),(.int .i64 0),(.bool false),(.int .u64 0)]) true⟩,
⟨some 22,none,.mv (.tmp 28)⟩,
⟨some 29,none,.ext (.tmp 22) 0⟩,
⟨some 30,none,.ext (.tmp 22) 1⟩,
⟨some 7,none,.allocz [(.int .i64 0),(.int .i64 0),(.bool false),(.int .u64 0)] false⟩,
⟨none,none,.store (.tmp 7) (.tmp 29) 4⟩,
⟨some 8,none,.mv (.tmp 30)⟩])
(.seq (.reg [⟨some 31,none,.mv (.tmp 8)⟩])
(.cond (.tmp 31)
(.seq (.reg [⟨some 32,none,.load (.tmp 7) 4 true⟩,
⟨none,none,.store (.tmp 4) (.tmp 32) 4⟩])
(.ret))
(.skip))))
(.seq (.seq (.reg [⟨some 34,none,.mv (.tmp 0)⟩,
⟨some 35,none,.nilc (.tmp 34)⟩,
⟨some 36,none,.fad (.tmp 35) 0⟩,
⟨some 37,none,.load (.tmp 36) 1 false⟩,
⟨some 38,none,.mv (.tmp 1)⟩,
⟨some 39,none,.lkp .s (.tmp 37) (.tmp 38) (.agg [(.str ⟨#[]⟩),(.int .i64 0),(.int .i64 0),(.int .i64 0)]) true⟩,
⟨some 33,none,.mv (.tmp 39)⟩,
⟨some 40,none,.ext (.tmp 33) 0⟩,
⟨some 41,none,.ext (.tmp 33) 1⟩,
⟨some 9,none,.allocz [(.str ⟨#[]⟩),(.int .i64 0),(.int .i64 0),(.int .i64 0)] false⟩,
⟨none,none,.store (.tmp 9) (.tmp 40) 4⟩,
⟨some 10,none,.mv (.tmp 41)⟩])
(.seq (.reg [⟨some 42,none,.mv (.tmp 10)⟩,
⟨some 43,none,.mv (.tmp 42)⟩,
⟨some 44,some (43,true),.fad (.tmp 9) 3⟩,
⟨some 45,some (43,true),.load (.tmp 44) 1 false⟩,
⟨some 46,some (43,true),.bin .eql .plain (.tmp 45) (.cst (.int .i64 0))⟩,
⟨some 47,none,.pick (.tmp 43) (.tmp 46) (.cst (.bool false))⟩])
(.cond (.tmp 47)
(.seq (.reg [⟨some 48,none,.fad (.tmp 9) 2⟩,
⟨some 49,none,.load (.tmp 48) 1 false⟩,
⟨some 50,none,.call 88 [(.tmp 49)]⟩,
⟨none,none,.store (.tmp 4) (.tmp 50) 4⟩])
(.ret))
(.skip))))
(.seq (.reg [⟨some 51,none,.call 36 [(.cst (.int .i64 4))]⟩])
(.seq (.reg [⟨some 52,none,.bld [(.int .i64 0),(.int .i64 0),(.bool false),(.int .u64 0)] []⟩,
⟨none,none,.store (.tmp 4) (.tmp 52) 4⟩])
(.ret))))))⟩
theorem tr77 : trF Go.Proofs.Tryd.prog { obj := [],bare := [],loops := [],draws := [],glob := globs,fresh := false } Go.Proofs.Tryd.f77 = some ir77 := by kernel_rfl
def ir78 : IFn := ⟨57,[.cell 6 4 true false],
.seq (.reg [⟨some 5,none,.box (.tmp 2) false⟩,
⟨some 6,none,.allocz [(.int .i64 0),(.int .i64 0),(.bool false),(.int .u64 0)] false⟩])
(.seq (.seq (.reg [⟨some 12,none,.mv (.tmp 0)⟩,
⟨some 13,none,.nilc (.tmp 12)⟩,
⟨some 14,none,.fad (.tmp 13) 0⟩,
⟨some 15,none,.load (.tmp 14) 1 false⟩,
⟨some 16,none,.mv (.tmp 1)⟩,
⟨some 17,none,.lkp .s (.tmp 15) (.tmp 16) (.agg [(.str ⟨#[]⟩),(.int .i64 0),(.int .i64 0),(.int .i64 0)]) true⟩,
⟨some 11,none,.mv (.tmp 17)⟩,
⟨some 18,none,.ext (.tmp 11) 0⟩,
⟨some 19,none,.ext (.tmp 11) 1⟩,
⟨some 7,none,.allocz [(.str ⟨#[]⟩),(.int .i64 0),(.int .i64 0),(.int .i64 0)] false⟩,
⟨none,none,.store (.tmp 7) (.tmp 18) 4⟩,
⟨some 8,none,.mv (.tmp 19)⟩])
(.seq (.reg [⟨some 20,none,.mv (.tmp 8)⟩,
⟨some 21,none,.mv (.tmp 20)⟩,
⟨some 22,some (21,true),.fad (.tmp 7) 3⟩,
⟨some 23,some (21,true),.load (.tmp 22) 1 false⟩,
⟨some 24,some (21,true),.bin .gtr .plain (.tmp 23) (.cst (.int .i64 0))⟩,
⟨some 25,none,.pick (.tmp 21) (.tmp 24) (.cst (.bool false))⟩])
(.cond (.tmp 25)
(.seq (.reg [⟨some 26,none,.load (.tmp 5) 4 true⟩,
⟨some 27,none,.fad (.tmp 7) 3⟩,
⟨some 28,none,.load (.tmp 27) 1 false⟩,
⟨some 29,none,.call 55 [(.tmp 26),(.tmp 28)]⟩])
(.seq (.reg [⟨some 30,none,.fad (.tmp 7) 2⟩,
⟨some 31,none,.load (.tmp 30) 1 false⟩,
⟨some 32,none,.call 88 [(.tmp 31)]⟩,
⟨none,none,.store (.tmp 6) (.tmp 32) 4⟩])
(.ret)))
(.skip))))
(.seq (.seq (.reg [⟨some 34,none,.mv (.tmp 0)⟩,
⟨some 35,none,.nilc (.tmp 34)⟩,
⟨some 36,none,.fad (.tmp 35) 1⟩,
⟨some 37,none,.load (.tmp 36) 1 false⟩,
⟨some 38,none,.mv (.tmp 1)⟩,
⟨some 39,none,.lkp .s (.tmp 37) (.tmp 38) (.int .i64 0) true⟩,
⟨some 33,none,.mv (.tmp 39)⟩,
⟨some 40,none,.ext (.tmp 33) 0⟩,
⟨some 41,none,.ext (.tmp 33) 1⟩,
⟨some 9,none,.mv (.tmp 40)⟩,
⟨some 10,none,.mv (.tmp 41)⟩])
(.seq (.reg [⟨some 42,none,.mv (.tmp 10)⟩])
(.cond (.tmp 42)
(.seq (.draw [(⟨some 43,none,.mv (.tmp 0)⟩,0,[]),
(⟨some 44,none,.nilc (.tmp 43)⟩,1,[]),
(⟨some 45,none,.fad (.tmp 44) 3⟩,2,[]),
(⟨some 46,none,.load (.tmp 45) 1 false⟩,3,[]),
(⟨some 47,none,.mv (.tmp 1)⟩,4,[]),
(⟨some 48,none,.lkp .s (.tmp 46) (.tmp 47) (.vec [] .full) false⟩,5,[]),
(⟨some 49,none,.load (.tmp 5) 4 true⟩,6,[]),
(⟨some 50,none,.mv (.tmp 9)⟩,7,[]),
(⟨some 51,none,.call 55 [(.tmp 49),(.tmp 50)]⟩,8,[3,5]),
(⟨some 52,none,.idxS (.tmp 48) (.tmp 51) 1⟩,9,[]),
(⟨some 53,none,.load (.tmp 52) 1 false⟩,10,[]),
(⟨some 54,none,.call 88 [(.tmp 53)]⟩,11,[]),
(⟨none,none,.store (.tmp 6) (.tmp 54) 4⟩,12,[])])
(.ret))
(.skip))))
(.seq (.reg [⟨some 55,none,.call 36 [(.cst (.int .i64 4))]⟩])
(.seq (.reg [⟨some 56,none,.bld [(.int .i64 0),(.int .i64 0),(.bool false),(.int .u64 0)] []⟩,
⟨none,none,.store (.tmp 6) (.tmp 56) 4⟩])
(.ret)))))⟩
theorem tr78 : trF Go.Proofs.Tryd.prog { obj := [],bare := [],loops := [],draws := [(7,([0,1,3,7,0,31,0,0,192,511,1023,2047,4095],[(0,[]),(1,[]),(2,[]),(3,[]),(4,[]),(5,[]),(6,[]),(7,[]),(8,[3,5]),(9,[]),(10,[]),(11,[]),(12,[])]))],glob := globs,fresh := false } Go.Proofs.Tryd.f78 = some ir78 := by kernel_rfl
def ir79 : IFn := ⟨81,[.cell 6 4 true false],
.seq (.reg [⟨some 4,none,.box (.tmp 1) false⟩,
⟨some 5,none,.box (.tmp 2) false⟩,
⟨some 6,none,.allocz [(.int .i64 0),(.int .i64 0),(.bool false),(.int .u64 0)] false⟩])
(.seq (.reg [⟨some 7,none,.mv (.cst (.int .i64 1))⟩])
(.seq (.seq (.reg [⟨some 9,none,.mv (.tmp 0)⟩,
⟨some 10,none,.bin .eql .plain (.tmp 9) (.cst (.int .i64 6))⟩,
⟨some 11,none,.mv (.tmp 10)⟩,
⟨some 12,some (11,false),.mv (.tmp 0)⟩,
⟨some 13,some (11,false),.bin .eql .plain (.tmp 12) (.cst (.int .i64 7))⟩,
⟨some 14,none,.pick (.tmp 11) (.cst (.bool true)) (.tmp 13)⟩])
(.cond (.tmp 14)
(.reg [⟨some 7,none,.mv (.cst (.int .i64 2))⟩])
(.skip)))
(.seq (.reg [⟨some 15,none,.load (.tmp 4) 4 true⟩,
⟨some 16,none,.mv (.tmp 7)⟩,
⟨some 17,none,.call 56 [(.tmp 15),(.tmp 16)]⟩])
(.seq (.reg [⟨some 18,none,.load (.tmp 5) 4 true⟩,
⟨some 19,none,.mv (.tmp 7)⟩,
⟨some 20,none,.call 56 [(.tmp 18),(.tmp 19)]⟩])
(.seq (.reg [⟨some 21,none,.load (.glob 1 [(.int .i64 2),(.int .i64 0),(.bool false),(.int .u64 0)]) 4 true⟩,
⟨some 8,none,.allocz [(.int .i64 0),(.int .i64 0),(.bool false),(.int .u64 0)] false⟩,
⟨none,none,.store (.tmp 8) (.tmp 21) 4⟩])
(.seq (.seq (.reg [⟨some 22,none,.mv (.tmp 0)⟩])
(.block 0
(.seq (.reg [⟨some 25,none,.bin .eql .plain (.tmp 22) (.cst (.int .i64 1))⟩,
⟨some 24,none,.mv (.tmp 25)⟩])
(.cond (.tmp 24)
(.seq (.reg [⟨some 26,none,.fad (.tmp 4) 1⟩,
⟨some 27,none,.load (.tmp 26) 1 false⟩,
⟨some 28,none,.fad (.tmp 5) 1⟩,
⟨some 29,none,.load (.tmp 28) 1 false⟩,
⟨some 30,none,.max [(.tmp 27),(.tmp 29)]⟩,
⟨some 31,none,.bin .add .plain (.tmp 30) (.cst (.int .i64 1))⟩,
⟨some 32,none,.call 88 [(.tmp 31)]⟩,
⟨none,none,.store (.tmp 8) (.tmp 32) 4⟩])
(.reg [⟨some 33,none,.fad (.tmp 4) 3⟩,
⟨some 34,none,.load (.tmp 33) 1 false⟩,
⟨some 35,none,.fad (.tmp 5) 3⟩,
⟨some 36,none,.load (.tmp 35) 1 false⟩,
⟨some 37,none,.bin .add .plain (.tmp 34) (.tmp 36)⟩,
⟨some 38,none,.fad (.tmp 8) 3⟩,
⟨none,none,.store (.tmp 38) (.tmp 37) 1⟩]))
(.seq (.reg [⟨some 40,none,.bin .eql .plain (.tmp 22) (.cst (.int .i64 2))⟩,
⟨some 39,none,.mv (.tmp 40)⟩])
(.cond (.tmp 39)
(.seq (.reg [⟨some 41,none,.fad (.tmp 4) 1⟩,
⟨some 42,none,.load (.tmp 41) 1 false⟩,
⟨some 43,none,.call 88 [(.tmp 42)]⟩,
⟨none,none,.store (.tmp 8) (.tmp 43) 4⟩])
(.seq (.reg [⟨some 44,none,.fad (.tmp 4) 3⟩,
⟨some 45,none,.load (.tmp 44) 1 false⟩,
⟨some 46,none,.fad (.tmp 5) 3⟩,
⟨some 47,none,.load (.tmp 46) 1 false⟩,
⟨some 48,none,.bin .gtr .plain (.tmp 45) (.tmp 47)⟩])
(.cond (.tmp 48)
(.reg [⟨some 49,none,.fad (.tmp 4) 3⟩,
⟨some 50,none,.load (.tmp 49) 1 false⟩,
⟨some 51,none,.fad (.tmp 5) 3⟩,
⟨some 52,none,.load (.tmp 51) 1 false⟩,
⟨some 53,none,.bin .sub .plain (.tmp 50) (.tmp 52)⟩,
⟨some 54,none,.fad (.tmp 8) 3⟩,
⟨none,none,.store (.tmp 54) (.tmp 53) 1⟩])
(.skip))))
(.seq (.reg [⟨some 56,none,.bin .eql .plain (.tmp 22) (.cst (.int .i64 3))⟩,
⟨some 55,none,.mv (.tmp 56)⟩])
(.cond (.tmp 55)
(.seq (.reg [⟨some 57,none,.fad (.tmp 4) 1⟩,
⟨some 58,none,.load (.tmp 57) 1 false⟩,
⟨some 59,none,.fad (.tmp 5) 1⟩,
⟨some 60,none,.load (.tmp 59) 1 false⟩,
⟨some 61,none,.bin .add .plain (.tmp 58) (.tmp 60)⟩,
⟨some 62,none,.call 88 [(.tmp 61)]⟩,
⟨none,none,.store (.tmp 8) (.tmp 62) 4⟩])
(.reg [⟨some 63,none,.fad (.tmp 4) 3⟩,
⟨some 64,none,.load (.tmp 63) 1 false⟩,
⟨some 65,none,.fad (.tmp 5) 3⟩,
⟨some 66,none,.load (.tmp 65) 1 false⟩,
⟨some 67,none,.bin .mul .plain (.tmp 64) (.tmp 66)⟩,
⟨some 68,none,.fad (.tmp 8) 3⟩,
⟨none,none,.store (.tmp 68) (.tmp 67) 1⟩]))
(.seq (.reg [⟨some 23,none,.load (.glob 1 [(.int .i64 2),(.int .i64 0),(.bool false),(.int .u64 0)]) 4 true⟩,
⟨none,none,.store (.tmp 6) (.tmp 23) 4⟩])
(.ret))))))))))
(.seq (.reg [⟨some 69,none,.fad (.tmp 4) 2⟩,
⟨some 70,none,.load (.tmp 69) 1 false⟩,
⟨some 71,none,.mv (.tmp 70)⟩,
⟨some 72,some (71,true),.fad (.tmp 5) 2⟩,
⟨some 73,some (71,true),.load (.tmp 72) 1 false⟩,
⟨some 74,none,.pick (.tmp 71) (.tmp 73) (.cst (.bool false))⟩,
⟨some 75,none,.fad (.tmp 8) 2⟩,
⟨none,none,.store (.tmp 75) (.tmp 74) 1⟩])
(.seq (.seq (.reg [⟨some 76,none,.fad (.tmp 8) 2⟩,
⟨some 77,none,.load (.tmp 76) 1 false⟩,
⟨some 78,none,.un .not (.tmp 77)⟩])
(.cond (.tmp 78)
(.reg [⟨some 79,none,.fad (.tmp 8) 3⟩,
⟨none,none,.store (.tmp 79) (.cst (.int .u64 0)) 1⟩])
(.skip)))
(.seq (.reg [⟨some 80,none,.load (.tmp 8) 4 true⟩,
⟨none,none,.store (.tmp 6) (.tmp 80) 4⟩])
(.ret))))))))))⟩
theorem tr79 : trF Go.Proofs.Tryd.prog { obj := [],bare := [],loops := [],draws := [],glob := globs,fresh := false } Go.Proofs.Tryd.f79 = some ir79 := by kernel_rfl
def ir80 : IFn := ⟨49,[.cell 4 4 true false,.tmp 5 false],
.seq (.reg [⟨some 3,none,.box (.tmp 1) false⟩,
⟨some 4,none,.allocz [(.int .i64 0),(.int .i64 0),(.bool false),(.int .u64 0)] false⟩,
⟨some 5,none,.mv (.cst (.int .i64 0))⟩])
(.seq (.reg [⟨some 10,none,.mv (.tmp 0)⟩,
⟨some 11,none,.fad (.tmp 3) 4⟩,
⟨some 12,none,.load (.tmp 11) 1 false⟩,
⟨some 13,none,.call 61 [(.tmp 10),(.tmp 12)]⟩,
⟨some 9,none,.mv (.tmp 13)⟩,
⟨some 14,none,.ext (.tmp 9) 0⟩,
⟨some 15,none,.ext (.tmp 9) 1⟩,
⟨some 6,none,.mv (.tmp 14)⟩,
⟨some 7,none,.mv (.tmp 15)⟩])
(.seq (.seq (.reg [⟨some 16,none,.mv (.tmp 7)⟩,
⟨some 17,none,.bin .neq .plain (.tmp 16) (.cst (.int .i64 0))⟩])
(.cond (.tmp 17)
(.seq (.reg [⟨some 18,none,.bld [(.int .i64 0),(.int .i64 0),(.bool false),(.int .u64 0)] []⟩,
⟨some 19,none,.mv (.tmp 7)⟩,
⟨none,none,.store (.tmp 4) (.tmp 18) 4⟩,
⟨some 5,none,.mv (.tmp 19)⟩])
(.ret))
(.skip)))
(.seq (.reg [⟨some 21,none,.mv (.tmp 0)⟩,
⟨some 22,none,.load (.tmp 3) 5 true⟩,
⟨some 23,none,.mv (.tmp 6)⟩,
⟨some 24,none,.call 89 [(.tmp 21),(.tmp 22),(.tmp 23)]⟩,
⟨some 20,none,.mv (.tmp 24)⟩,
⟨some 25,none,.ext (.tmp 20) 0⟩,
⟨some 26,none,.ext (.tmp 20) 1⟩,
⟨some 8,none,.allocz [(.int .i64 0),(.int .i64 0),(.bool false),(.int .u64 0)] false⟩,
⟨none,none,.store (.tmp 8) (.tmp 25) 4⟩,
⟨some 7,none,.mv (.tmp 26)⟩])
(.seq (.seq (.reg [⟨some 27,none,.mv (.tmp 7)⟩,
⟨some 28,none,.bin .neq .plain (.tmp 27) (.cst (.int .i64 0))⟩])
(.cond (.tmp 28)
(.seq (.reg [⟨some 29,none,.bld [(.int .i64 0),(.int .i64 0),(.bool false),(.int .u64 0)] []⟩,
⟨some 30,none,.mv (.tmp 7)⟩,
⟨none,none,.store (.tmp 4) (.tmp 29) 4⟩,
⟨some 5,none,.mv (.tmp 30)⟩])
(.ret))
(.skip)))
(.seq (.seq (.reg [⟨some 31,none,.fad (.tmp 8) 0⟩,
⟨some 32,none,.load (.tmp 31) 1 false⟩,
⟨some 33,none,.bin .eql .plain (.tmp 32) (.cst (.int .i64 1))⟩])
(.cond (.tmp 33)
(.seq (.seq (.reg [⟨some 34,none,.fad (.tmp 8) 1⟩,
⟨some 35,none,.load (.tmp 34) 1 false⟩,
⟨some 36,none,.bin .gtr .plain (.tmp 35) (.cst (.int .i64 60))⟩])
(.cond (.tmp 36)
(.seq (.reg [⟨some 37,none,.bld [(.int .i64 0),(.int .i64 0),(.bool false),(.int .u64 0)] []⟩,
⟨none,none,.store (.tmp 4) (.tmp 37) 4⟩,
⟨some 5,none,.mv (.cst (.int .i64 11))⟩])
(.ret))
(.skip)))
(.draw [(⟨some 38,none,.mv (.tmp 0)⟩,0,[]),
(⟨some 39,none,.mv (.tmp 0)⟩,1,[]),
(⟨some 40,none,.nilc (.tmp 39)⟩,2,[]),
(⟨some 41,none,.fad (.tmp 40) 7⟩,3,[]),
(⟨some 42,none,.load (.tmp 41) 1 false⟩,4,[]),
(⟨some 43,none,.fad (.tmp 8) 1⟩,5,[]),
(⟨some 44,none,.load (.tmp 43) 1 false⟩,6,[]),
(⟨some 45,none,.max [(.tmp 42),(.tmp 44)]⟩,7,[]),
(⟨some 46,none,.nilc (.tmp 38)⟩,8,[]),
(⟨some 47,none,.fad (.tmp 46) 7⟩,9,[]),
(⟨none,none,.store (.tmp 47) (.tmp 45) 1⟩,10,[])]))
(.skip)))
(.seq (.reg [⟨some 48,none,.load (.tmp 8) 4 true⟩,
⟨none,none,.store (.tmp 4) (.tmp 48) 4⟩,
⟨some 5,none,.mv (.cst (.int .i64 0))⟩])
(.ret)))))))⟩
theorem tr80 : trF Go.Proofs.Tryd.prog { obj := [],bare := [],loops := [],draws := [(10,([0,0,2,6,14,0,32,126,255,511,1023],[(0,[]),(1,[]),(2,[]),(3,[]),(4,[]),(5,[]),(6,[]),(7,[]),(8,[]),(9,[]),(10,[])]))],glob := globs,fresh := false } Go.Proofs.Tryd.f80 = some ir80 := by kernel_rfl
def ir81 : IFn := ⟨22,[.tmp 4 false],
.seq (.reg [⟨some 2,none,.box (.tmp 0) false⟩,
⟨some 4,none,.mv (.cst (.int .i64 0))⟩])
(.seq (.seq (.reg [⟨some 5,none,.mv (.cst (.int .i64 0))⟩])
(.block 0
(.loop [1,2,5]
(.seq (.seq (.reg [⟨some 6,none,.mv (.tmp 5)⟩,
⟨some 7,none,.fad (.tmp 2) 0⟩,
⟨some 8,none,.load (.tmp 7) 1 false⟩,
⟨some 9,none,.len .i (.tmp 8)⟩,
⟨some 10,none,.bin .lss .plain (.tmp 6) (.tmp 9)⟩])
(.cond (.tmp 10)
(.skip)
(.brk 0)))
(.seq (.block 1
(.seq (.reg [⟨some 13,none,.fad (.tmp 2) 0⟩,
⟨some 14,none,.load (.tmp 13) 1 false⟩,
⟨some 15,none,.mv (.tmp 5)⟩,
⟨some 16,none,.idxS (.tmp 14) (.tmp 15) 4⟩,
⟨some 17,none,.fad (.tmp 16) 0⟩,
⟨some 18,none,.load (.tmp 17) 1 false⟩,
⟨some 19,none,.mv (.tmp 1)⟩,
⟨some 20,none,.bin .eql .plain (.tmp 18) (.tmp 19)⟩])
(.cond (.tmp 20)
(.seq (.reg [⟨some 21,none,.mv (.tmp 5)⟩,
⟨some 4,none,.mv (.tmp 21)⟩])
(.ret))
(.skip))))
(.reg [⟨some 11,none,.mv (.tmp 5)⟩,
⟨some 12,none,.bin .add .plain (.tmp 11) (.cst (.int .i64 1))⟩,
⟨some 5,none,.mv (.tmp 12)⟩]))))))
(.seq (.reg [⟨some 4,none,.mv (.cst (.int .i64 (-1)))⟩])
(.ret)))⟩
theorem tr81 : trF Go.Proofs.Tryd.prog { obj := [],bare := [],loops := [[1,2,5]],draws := [],glob := globs,fresh := false } Go.Proofs.Tryd.f81 = some ir81 := by kernel_rfl
def ir82 : IFn := ⟨20,[.tmp 4 false],
.seq (.reg [⟨some 4,none,.mv (.cst (.int .i64 0))⟩])
(.seq (.seq (.reg [⟨some 5,none,.mv (.cst (.int .i64 0))⟩])
(.block 0
(.loop [0,1,5]
(.seq (.seq (.reg [⟨some 6,none,.mv (.tmp 5)⟩,
⟨some 7,none,.mv (.tmp 0)⟩,
⟨some 8,none,.len .i (.tmp 7)⟩,
⟨some 9,none,.bin .lss .plain (.tmp 6) (.tmp 8)⟩])
(.cond (.tmp 9)
(.skip)
(.brk 0)))
(.seq (.block 1
(.seq (.reg [⟨some 12,none,.mv (.tmp 0)⟩,
⟨some 13,none,.mv (.tmp 5)⟩,
⟨some 14,none,.idxS (.tmp 12) (.tmp 13) 5⟩,
⟨some 15,none,.fad (.tmp 14) 0⟩,
⟨some 16,none,.load (.tmp 15) 1 false⟩,
⟨some 17,none,.mv (.tmp 1)⟩,
⟨some 18,none,.bin .eql .plain (.tmp 16) (.tmp 17)⟩])
(.cond (.tmp 18)
(.seq (.reg [⟨some 19,none,.mv (.tmp 5)⟩,
⟨some 4,none,.mv (.tmp 19)⟩])
(.ret))
(.skip))))
(.reg [⟨some 10,none,.mv (.tmp 5)⟩,
⟨some 11,none,.bin .add .plain (.tmp 10) (.cst (.int .i64 1))⟩,
⟨some 5,none,.mv (.tmp 11)⟩]))))))
(.seq (.reg [⟨some 4,none,.mv (.cst (.int .i64 (-1)))⟩])
(.ret)))⟩
theorem tr82 : trF Go.Proofs.Tryd.prog { obj := [],bare := [],loops := [[0,1,5]],draws := [],glob := globs,fresh := false } Go.Proofs.Tryd.f82 = some ir82 := by kernel_rfl
def ir83 : IFn := ⟨21,[.tmp 2 false],
.seq (.reg [⟨some 2,none,.mv (.cst (.vec [] .full))⟩])
(.seq (.reg [⟨some 3,none,.mv (.cst (.vec [] .full))⟩])
(.seq (.seq (.reg [⟨some 4,none,.mv (.cst (.int .i64 0))⟩])
(.block 0
(.loop [0,3,4]
(.seq (.seq (.reg [⟨some 5,none,.mv (.tmp 4)⟩,
⟨some 6,none,.mv (.tmp 0)⟩,
⟨some 7,none,.len .i (.tmp 6)⟩,
⟨some 8,none,.bin .lss .plain (.tmp 5) (.tmp 7)⟩])
(.cond (.tmp 8)
(.skip)
(.brk 0)))
(.seq (.block 1
(.reg [⟨some 11,none,.mv (.tmp 3)⟩,
⟨some 12,none,.bsl 0 1 false [(.int .i64 0)] []⟩,
⟨some 13,none,.mv (.tmp 0)⟩,
⟨some 14,none,.mv (.tmp 4)⟩,
⟨some 15,none,.idxS (.tmp 13) (.tmp 14) 1⟩,
⟨some 16,none,.load (.tmp 15) 1 false⟩,
⟨some 17,none,.app (.tmp 12) (.tmp 16) 1 8 false true⟩,
⟨some 18,none,.bsl 1 1 false [(.vec [] .any)] [(0,1,(.tmp 17))]⟩,
⟨some 19,none,.app (.tmp 11) (.tmp 18) 1 24 false true⟩,
⟨some 3,none,.mv (.tmp 19)⟩]))
(.reg [⟨some 9,none,.mv (.tmp 4)⟩,
⟨some 10,none,.bin .add .plain (.tmp 9) (.cst (.int .i64 1))⟩,
⟨some 4,none,.mv (.tmp 10)⟩]))))))
(.seq (.reg [⟨some 20,none,.mv (.tmp 3)⟩,
⟨some 2,none,.mv (.tmp 20)⟩])
(.ret))))⟩
theorem tr83 : trF Go.Proofs.Tryd.prog { obj := [17,19],bare := [],loops := [[0,3,4]],draws := [],glob := globs,fresh := false } Go.Proofs.Tryd.f83 = some ir83 := by kernel_rfl
def ir84 : IFn := ⟨82,[.tmp 6 false],
.seq (.reg [⟨some 6,none,.mv (.cst (.vec [] .full))⟩])
(.seq (.reg [⟨some 7,none,.mv (.cst (.vec [] .full))⟩])
(.seq (.seq (.reg [⟨some 8,none,.mv (.cst (.int .i64 0))⟩])
(.block 0
(.loop [0,1,2,7,8]
(.seq (.seq (.reg [⟨some 11,none,.mv (.tmp 8)⟩,
⟨some 12,none,.mv (.tmp 0)⟩,
⟨some 13,none,.len .i (.tmp 12)⟩,
⟨some 14,none,.bin .lss .plain (.tmp 11) (.tmp 13)⟩])
(.cond (.tmp 14)
(.skip)
(.brk 0)))
(.seq (.block 1
(.seq (.draw [(⟨some 17,none,.mv (.tmp 1)⟩,0,[]),
(⟨some 18,none,.mv (.tmp 0)⟩,1,[]),
(⟨some 19,none,.mv (.tmp 8)⟩,2,[]),
(⟨some 20,none,.idxS (.tmp 18) (.tmp 19) 5⟩,3,[]),
(⟨some 21,none,.fad (.tmp 20) 0⟩,4,[]),
(⟨some 22,none,.load (.tmp 21) 1 false⟩,5,[]),
(⟨some 24,none,.mv (.tmp 2)⟩,7,[]),
(⟨some 25,none,.mv (.tmp 0)⟩,8,[]),
(⟨some 26,none,.mv (.tmp 8)⟩,9,[]),
(⟨some 27,none,.idxS (.tmp 25) (.tmp 26) 5⟩,10,[]),
(⟨some 28,none,.fad (.tmp 27) 0⟩,11,[]),
(⟨some 29,none,.load (.tmp 28) 1 false⟩,12,[]),
(⟨some 23,none,.call 82 [(.tmp 17),(.tmp 22)]⟩,6,[11]),
(⟨some 30,none,.call 82 [(.tmp 24),(.tmp 29)]⟩,13,[]),
(⟨some 9,none,.mv (.tmp 23)⟩,14,[]),
(⟨some 10,none,.mv (.tmp 30)⟩,15,[])])
(.seq (.draw [(⟨some 31,none,.mv (.tmp 9)⟩,0,[]),
(⟨some 32,none,.bin .geq .plain (.tmp 31) (.cst (.int .i64 0))⟩,1,[]),
(⟨some 33,none,.mv (.tmp 32)⟩,2,[]),
(⟨some 34,some (33,true),.mv (.tmp 10)⟩,3,[]),
(⟨some 35,some (33,true),.bin .geq .plain (.tmp 34) (.cst (.int .i64 0))⟩,4,[]),
(⟨some 36,none,.pick (.tmp 33) (.tmp 35) (.cst (.bool false))⟩,5,[]),
(⟨some 37,none,.mv (.tmp 36)⟩,6,[]),
(⟨some 38,some (37,true),.mv (.tmp 1)⟩,7,[]),
(⟨some 39,some (37,true),.mv (.tmp 9)⟩,8,[]),
(⟨some 40,some (37,true),.idxS (.tmp 38) (.tmp 39) 5⟩,9,[]),
(⟨some 41,some (37,true),.fad (.tmp 40) 1⟩,10,[]),
(⟨some 42,some (37,true),.fad (.tmp 41) 0⟩,11,[]),
(⟨some 43,some (37,true),.load (.tmp 42) 1 false⟩,12,[]),
(⟨some 44,some (37,true),.mv (.tmp 2)⟩,13,[]),
(⟨some 45,some (37,true),.mv (.tmp 10)⟩,14,[]),
(⟨some 46,some (37,true),.idxS (.tmp 44) (.tmp 45) 5⟩,15,[]),
(⟨some 47,some (37,true),.fad (.tmp 46) 1⟩,16,[]),
(⟨some 48,some (37,true),.fad (.tmp 47) 0⟩,17,[]),
(⟨some 49,some (37,true),.load (.tmp 48) 1 false⟩,18,[]),
(⟨some 50,some (37,true),.bin .eql .plain (.tmp 43) (.tmp 49)⟩,19,[]),
(⟨some 51,none,.pick (.tmp 37) (.tmp 50) (.cst (.bool false))⟩,20,[])])
(.cond (.tmp 51)
(.draw [(⟨some 52,none,.mv (.tmp 7)⟩,0,[]),
(⟨some 53,none,.mv (.tmp 0)⟩,1,[]),
(⟨some 54,none,.mv (.tmp 8)⟩,2,[]),
(⟨some 55,none,.idxS (.tmp 53) (.tmp 54) 5⟩,3,[]),
(⟨some 56,none,.fad (.tmp 55) 0⟩,4,[]),
(⟨some 57,none,.load (.tmp 56) 1 false⟩,5,[]),
(⟨some 58,none,.mv (.tmp 1)⟩,6,[]),
(⟨some 59,none,.mv (.tmp 9)⟩,7,[]),
(⟨some 60,none,.idxS (.tmp 58) (.tmp 59) 5⟩,8,[]),
(⟨some 61,none,.fad (.tmp 60) 1⟩,9,[]),
(⟨some 62,none,.fad (.tmp 61) 0⟩,10,[]),
(⟨some 63,none,.load (.tmp 62) 1 false⟩,11,[]),
(⟨some 64,none,.mv (.tmp 1)⟩,12,[]),
(⟨some 65,none,.mv (.tmp 9)⟩,13,[]),
(⟨some 66,none,.idxS (.tmp 64) (.tmp 65) 5⟩,14,[]),
(⟨some 67,none,.fad (.tmp 66) 1⟩,15,[]),
(⟨some 68,none,.fad (.tmp 67) 1⟩,16,[]),
(⟨some 69,none,.load (.tmp 68) 1 false⟩,17,[]),
(⟨some 70,none,.mv (.tmp 2)⟩,18,[]),
(⟨some 71,none,.mv (.tmp 10)⟩,19,[]),
(⟨some 72,none,.idxS (.tmp 70) (.tmp 71) 5⟩,20,[]),
(⟨some 73,none,.fad (.tmp 72) 1⟩,21,[]),
(⟨some 74,none,.fad (.tmp 73) 1⟩,22,[]),
(⟨some 75,none,.load (.tmp 74) 1 false⟩,23,[]),
(⟨some 76,none,.max [(.tmp 69),(.tmp 75)]⟩,24,[]),
(⟨some 77,none,.bld [(.int .i64 0),(.int .i64 0),(.bool false),(.int .u64 0)] [(0,1,(.tmp 63)),(1,1,(.tmp 76))]⟩,25,[]),
(⟨some 78,none,.bld [(.str ⟨#[]⟩),(.int .i64 0),(.int .i64 0),(.bool false),(.int .u64 0)] [(0,1,(.tmp 57)),(1,4,(.tmp 77))]⟩,26,[]),
(⟨some 79,none,.bsl 1 5 true [(.str ⟨#[]⟩),(.int .i64 0),(.int .i64 0),(.bool false),(.int .u64 0)] [(0,5,(.tmp 78))]⟩,27,[]),
(⟨some 80,none,.app (.tmp 52) (.tmp 79) 5 48 true false⟩,28,[]),
(⟨some 7,none,.mv (.tmp 80)⟩,29,[])])
(.skip)))))
(.reg [⟨some 15,none,.mv (.tmp 8)⟩,
⟨some 16,none,.bin .add .plain (.tmp 15) (.cst (.int .i64 1))⟩,
⟨some 8,none,.mv (.tmp 16)⟩]))))))
(.seq (.reg [⟨some 81,none,.mv (.tmp 7)⟩,
⟨some 6,none,.mv (.tmp 81)⟩])
(.ret))))⟩
theorem tr84 : trF Go.Proofs.Tryd.prog { obj := [],bare := [],loops := [[0,1,2,7,8]],draws := [(5,([0,0,0,6,14,30,63,0,0,0,768,1792,3840,8191,16383,32767],[(0,[]),(1,[]),(2,[]),(3,[]),(4,[]),(5,[]),(7,[]),(8,[]),(9,[]),(10,[]),(11,[]),(12,[]),(6,[11]),(13,[]),(14,[]),(15,[])])),(6,([0,1,3,7,15,31,63,127,127,511,1023,2047,4095,127,127,24703,57471,123007,254079,524287,1048575],[(0,[]),(1,[]),(2,[]),(3,[]),(4,[]),(5,[]),(6,[]),(7,[]),(8,[]),(9,[]),(10,[]),(11,[]),(12,[]),(13,[]),(14,[]),(15,[]),(16,[]),(17,[]),(18,[]),(19,[]),(20,[])])),(7,([0,0,0,6,14,30,0,0,192,448,960,1984,0,0,12288,28672,61440,126976,0,0,786432,1835008,3932160,8126464,16773120,33554368,67108862,134217726,268435455,536870911],[(0,[]),(1,[]),(2,[]),(3,[]),(4,[]),(5,[]),(6,[]),(7,[]),(8,[]),(9,[]),(10,[]),(11,[]),(12,[]),(13,[]),(14,[]),(15,[]),(16,[]),(17,[]),(18,[]),(19,[]),(20,[]),(21,[]),(22,[]),(23,[]),(24,[]),(25,[]),(26,[]),(27,[]),(28,[]),(29,[])]))],glob := globs,fresh := false } Go.Proofs.Tryd.f84 = some ir84 := by kernel_rfl
def ir85 : IFn := ⟨7,[.cell 2 4 true false],
.seq (.reg [⟨some 2,none,.allocz [(.int .i64 0),(.int .i64 0),(.bool false),(.int .u64 0)] false⟩])
(.seq (.reg [⟨some 3,none,.mv (.tmp 0)⟩,
⟨some 4,none,.call 20 [(.tmp 3)]⟩,
⟨some 5,none,.mv (.tmp 0)⟩,
⟨some 6,none,.bld [(.int .i64 0),(.int .i64 0),(.bool false),(.int .u64 0)] [(0,1,(.cst (.int .i64 1))),(1,1,(.tmp 4)),(2,1,(.cst (.bool true))),(3,1,(.tmp 5))]⟩,
⟨none,none,.store (.tmp 2) (.tmp 6) 4⟩])
(.ret))⟩
theorem tr85 : trF Go.Proofs.Tryd.prog { obj := [],bare := [],loops := [],draws := [],glob := globs,fresh := false } Go.Proofs.Tryd.f85 = some ir85 := by kernel_rfl
def ir87 : IFn := ⟨6,[.tmp 2 false],
.seq (.reg [⟨some 2,none,.mv (.cst (.int .i64 0))⟩])
(.seq (.reg [⟨some 3,none,.mv (.tmp 0)⟩,
⟨some 4,none,.call 90 [(.tmp 3)]⟩,
⟨some 5,none,.max [(.tmp 4),(.cst (.int .i64 1))]⟩,
⟨some 2,none,.mv (.tmp 5)⟩])
(.ret))⟩
theorem tr87 : trF Go.Proofs.Tryd.prog { obj := [],bare := [],loops := [],draws := [],glob := globs,fresh := false } Go.Proofs.Tryd.f87 = some ir87 := by kernel_rfl
def ir88 : IFn := ⟨5,[.cell 2 4 true false],
.seq (.reg [⟨some 2,none,.allocz [(.int .i64 0),(.int .i64 0),(.bool false),(.int .u64 0)] false⟩])
(.seq (.reg [⟨some 3,none,.mv (.tmp 0)⟩,
⟨some 4,none,.bld [(.int .i64 0),(.int .i64 0),(.bool false),(.int .u64 0)] [(0,1,(.cst (.int .i64 1))),(1,1,(.tmp 3))]⟩,
⟨none,none,.store (.tmp 2) (.tmp 4) 4⟩])
(.ret))⟩
theorem tr88 : trF Go.Proofs.Tryd.prog { obj := [],bare := [],loops := [],draws := [],glob := globs,fresh := false } Go.Proofs.Tryd.f88 = some ir88 := by kernel_rfl
def ir89 : IFn := ⟨87,[.cell 6 4 true false,.tmp 7 false],
.seq (.reg [⟨some 4,none,.box (.tmp 1) false⟩,
⟨some 6,none,.allocz [(.int .i64 0),(.int .i64 0),(.bool false),(.int .u64 0)] false⟩,
⟨some 7,none,.mv (.cst (.int .i64 0))⟩])
(.seq (.seq (.reg [⟨some 8,none,.fad (.tmp 4) 0⟩,
⟨some 9,none,.load (.tmp 8) 1 false⟩])
(.block 0
(.seq (.reg [⟨some 11,none,.bin .eql .plain (.tmp 9) (.cst (.int .i64 1))⟩,
⟨some 10,none,.mv (.tmp 11)⟩])
(.cond (.tmp 10)
(.seq (.reg [⟨some 12,none,.fad (.tmp 4) 2⟩,
⟨some 13,none,.load (.tmp 12) 1 false⟩,
⟨some 14,none,.call 85 [(.tmp 13)]⟩,
⟨none,none,.store (.tmp 6) (.tmp 14) 4⟩,
⟨some 7,none,.mv (.cst (.int .i64 0))⟩])
(.ret))
(.seq (.reg [⟨some 16,none,.bin .eql .plain (.tmp 9) (.cst (.int .i64 2))⟩,
⟨some 15,none,.mv (.tmp 16)⟩])
(.cond (.tmp 15)
(.seq (.reg [⟨some 17,none,.mv (.tmp 0)⟩,
⟨some 18,none,.fad (.tmp 4) 3⟩,
⟨some 19,none,.load (.tmp 18) 1 false⟩,
⟨some 20,none,.call 91 [(.tmp 17),(.tmp 19)]⟩,
⟨some 21,none,.ext (.tmp 20) 0⟩,
⟨some 22,none,.ext (.tmp 20) 1⟩,
⟨none,none,.store (.tmp 6) (.tmp 21) 4⟩,
⟨some 7,none,.mv (.tmp 22)⟩])
(.ret))
(.seq (.reg [⟨some 24,none,.bin .eql .plain (.tmp 9) (.cst (.int .i64 3))⟩,
⟨some 23,none,.mv (.tmp 24)⟩])
(.cond (.tmp 23)
(.seq (.draw [(⟨some 25,none,.mv (.tmp 0)⟩,0,[]),
(⟨some 26,none,.fad (.tmp 4) 3⟩,1,[]),
(⟨some 27,none,.load (.tmp 26) 1 false⟩,2,[]),
(⟨some 28,none,.mv (.tmp 2)⟩,3,[]),
(⟨some 29,none,.idxS (.tmp 28) (.cst (.int .i64 0)) 4⟩,4,[]),
(⟨some 30,none,.load (.tmp 29) 4 true⟩,5,[]),
(⟨some 31,none,.call 92 [(.tmp 25),(.tmp 27),(.tmp 30)]⟩,6,[]),
(⟨some 32,none,.ext (.tmp 31) 0⟩,7,[]),
(⟨some 33,none,.ext (.tmp 31) 1⟩,8,[]),
(⟨none,none,.store (.tmp 6) (.tmp 32) 4⟩,9,[]),
(⟨some 7,none,.mv (.tmp 33)⟩,10,[])])
(.ret))
(.seq (.reg [⟨some 35,none,.bin .eql .plain (.tmp 9) (.cst (.int .i64 4))⟩,
⟨some 34,none,.mv (.tmp 35)⟩])
(.cond (.tmp 34)
(.seq (.draw [(⟨some 36,none,.fad (.tmp 4) 1⟩,0,[]),
(⟨some 37,none,.load (.tmp 36) 1 false⟩,1,[]),
(⟨some 38,none,.mv (.tmp 2)⟩,2,[]),
(⟨some 39,none,.idxS (.tmp 38) (.cst (.int .i64 0)) 4⟩,3,[]),
(⟨some 40,none,.load (.tmp 39) 4 true⟩,4,[]),
(⟨some 41,none,.mv (.tmp 2)⟩,5,[]),
(⟨some 42,none,.idxS (.tmp 41) (.cst (.int .i64 1)) 4⟩,6,[]),
(⟨some 43,none,.load (.tmp 42) 4 true⟩,7,[]),
(⟨some 44,none,.call 93 [(.tmp 37),(.tmp 40),(.tmp 43)]⟩,8,[]),
(⟨some 45,none,.ext (.tmp 44) 0⟩,9,[]),
(⟨some 46,none,.ext (.tmp 44) 1⟩,10,[]),
(⟨none,none,.store (.tmp 6) (.tmp 45) 4⟩,11,[]),
(⟨some 7,none,.mv (.tmp 46)⟩,12,[])])
(.ret))
(.seq (.reg [⟨some 48,none,.bin .eql .plain (.tmp 9) (.cst (.int .i64 5))⟩,
⟨some 47,none,.mv (.tmp 48)⟩])
(.cond (.tmp 47)
(.seq (.seq (.reg [⟨some 49,none,.mv (.tmp 2)⟩,
⟨some 50,none,.idxS (.tmp 49) (.cst (.int .i64 0)) 4⟩,
⟨some 51,none,.fad (.tmp 50) 0⟩,
⟨some 52,none,.load (.tmp 51) 1 false⟩,
⟨some 53,none,.bin .neq .plain (.tmp 52) (.cst (.int .i64 2))⟩])
(.cond (.tmp 53)
(.seq (.reg [⟨some 54,none,.bld [(.int .i64 0),(.int .i64 0),(.bool false),(.int .u64 0)] []⟩,
⟨none,none,.store (.tmp 6) (.tmp 54) 4⟩,
⟨some 7,none,.mv (.cst (.int .i64 5))⟩])
(.ret))
(.skip)))
(.seq (.reg [⟨some 55,none,.bld [(.int .i64 0),(.int .i64 0),(.bool false),(.int .u64 0)] [(0,1,(.cst (.int .i64 2)))]⟩,
⟨none,none,.store (.tmp 6) (.tmp 55) 4⟩,
⟨some 7,none,.mv (.cst (.int .i64 0))⟩])
(.ret)))
(.skip)))))))))))))
(.seq (.seq (.draw [(⟨some 56,none,.mv (.tmp 2)⟩,0,[]),
(⟨some 57,none,.idxS (.tmp 56) (.cst (.int .i64 0)) 4⟩,1,[]),
(⟨some 58,none,.fad (.tmp 57) 0⟩,2,[]),
(⟨some 59,none,.load (.tmp 58) 1 false⟩,3,[]),
(⟨some 60,none,.bin .neq .plain (.tmp 59) (.cst (.int .i64 2))⟩,4,[]),
(⟨some 61,none,.mv (.tmp 60)⟩,5,[]),
(⟨some 62,some (61,false),.mv (.tmp 2)⟩,6,[]),
(⟨some 63,some (61,false),.idxS (.tmp 62) (.cst (.int .i64 1)) 4⟩,7,[]),
(⟨some 64,some (61,false),.fad (.tmp 63) 0⟩,8,[]),
(⟨some 65,some (61,false),.load (.tmp 64) 1 false⟩,9,[]),
(⟨some 66,some (61,false),.mv (.tmp 2)⟩,10,[]),
(⟨some 67,some (61,false),.idxS (.tmp 66) (.cst (.int .i64 2)) 4⟩,11,[]),
(⟨some 68,some (61,false),.fad (.tmp 67) 0⟩,12,[]),
(⟨some 69,some (61,false),.load (.tmp 68) 1 false⟩,13,[]),
(⟨some 70,some (61,false),.bin .neq .plain (.tmp 65) (.tmp 69)⟩,14,[]),
(⟨some 71,none,.pick (.tmp 61) (.cst (.bool true)) (.tmp 70)⟩,15,[])])
(.cond (.tmp 71)
(.seq (.reg [⟨some 72,none,.bld [(.int .i64 0),(.int .i64 0),(.bool false),(.int .u64 0)] []⟩,
⟨none,none,.store (.tmp 6) (.tmp 72) 4⟩,
⟨some 7,none,.mv (.cst (.int .i64 5))⟩])
(.ret))
(.skip)))
(.seq (.draw [(⟨some 73,none,.mv (.tmp 2)⟩,0,[]),
(⟨some 74,none,.idxS (.tmp 73) (.cst (.int .i64 1)) 4⟩,1,[]),
(⟨some 75,none,.fad (.tmp 74) 0⟩,2,[]),
(⟨some 76,none,.load (.tmp 75) 1 false⟩,3,[]),
(⟨some 77,none,.mv (.tmp 2)⟩,4,[]),
(⟨some 78,none,.idxS (.tmp 77) (.cst (.int .i64 1)) 4⟩,5,[]),
(⟨some 79,none,.fad (.tmp 78) 1⟩,6,[]),
(⟨some 80,none,.load (.tmp 79) 1 false⟩,7,[]),
(⟨some 81,none,.mv (.tmp 2)⟩,8,[]),
(⟨some 82,none,.idxS (.tmp 81) (.cst (.int .i64 2)) 4⟩,9,[]),
(⟨some 83,none,.fad (.tmp 82) 1⟩,10,[]),
(⟨some 84,none,.load (.tmp 83) 1 false⟩,11,[]),
(⟨some 85,none,.max [(.tmp 80),(.tmp 84)]⟩,12,[]),
(⟨some 86,none,.bld [(.int .i64 0),(.int .i64 0),(.bool false),(.int .u64 0)] [(0,1,(.tmp 76)),(1,1,(.tmp 85))]⟩,13,[]),
(⟨none,none,.store (.tmp 6) (.tmp 86) 4⟩,14,[]),
(⟨some 7,none,.mv (.cst (.int .i64 0))⟩,15,[])])
(.ret))))⟩
theorem tr89 : trF Go.Proofs.Tryd.prog { obj := [],bare := [],loops := [],draws := [(7,([0,0,2,0,8,24,63,127,127,511,1023],[(0,[]),(1,[]),(2,[]),(3,[]),(4,[]),(5,[]),(6,[]),(7,[]),(8,[]),(9,[]),(10,[])])),(9,([0,1,0,4,12,0,32,96,255,511,511,2047,4095],[(0,[]),(1,[]),(2,[]),(3,[]),(4,[]),(5,[]),(6,[]),(7,[]),(8,[]),(9,[]),(10,[]),(11,[]),(12,[])])),(14,([0,1,3,7,15,31,63,127,255,511,63,1087,3135,7231,16383,32767],[(0,[]),(1,[]),(2,[]),(3,[]),(4,[]),(5,[]),(6,[]),(7,[]),(8,[]),(9,[]),(10,[]),(11,[]),(12,[]),(13,[]),(14,[]),(15,[])])),(16,([0,1,3,7,0,16,48,112,0,256,768,1792,4080,8191,16383,32767],[(0,[]),(1,[]),(2,[]),(3,[]),(4,[]),(5,[]),(6,[]),(7,[]),(8,[]),(9,[]),(10,[]),(11,[]),(12,[]),(13,[]),(14,[]),(15,[])]))],glob := globs,fresh := false } Go.Proofs.Tryd.f89 = some ir89 := by kernel_rfl
def ir90 : IFn := ⟨25,[.tmp 2 false],
.seq (.reg [⟨some 2,none,.mv (.cst (.int .i64 0))⟩])
(.seq (.seq (.reg [⟨some 3,none,.mv (.tmp 0)⟩,
⟨some 4,none,.bin .geq .plain (.tmp 3) (.cst (.int .u64 4294967296))⟩])
(.cond (.tmp 4)
(.seq (.reg [⟨some 5,none,.mv (.tmp 0)⟩,
⟨some 6,none,.bin .shr .plain (.tmp 5) (.cst (.int .u64 32))⟩,
⟨some 0,none,.mv (.tmp 6)⟩])
(.reg [⟨some 2,none,.mv (.cst (.int .i64 32))⟩]))
(.skip)))
(.seq (.seq (.reg [⟨some 7,none,.mv (.tmp 0)⟩,
⟨some 8,none,.bin .geq .plain (.tmp 7) (.cst (.int .u64 65536))⟩])
(.cond (.tmp 8)
(.seq (.reg [⟨some 9,none,.mv (.tmp 0)⟩,
⟨some 10,none,.bin .shr .plain (.tmp 9) (.cst (.int .u64 16))⟩,
⟨some 0,none,.mv (.tmp 10)⟩])
(.reg [⟨some 11,none,.mv (.tmp 2)⟩,
⟨some 12,none,.bin .add .plain (.tmp 11) (.cst (.int .i64 16))⟩,
⟨some 2,none,.mv (.tmp 12)⟩]))
(.skip)))
(.seq (.seq (.reg [⟨some 13,none,.mv (.tmp 0)⟩,
⟨some 14,none,.bin .geq .plain (.tmp 13) (.cst (.int .u64 256))⟩])
(.cond (.tmp 14)
(.seq (.reg [⟨some 15,none,.mv (.tmp 0)⟩,
⟨some 16,none,.bin .shr .plain (.tmp 15) (.cst (.int .u64 8))⟩,
⟨some 0,none,.mv (.tmp 16)⟩])
(.reg [⟨some 17,none,.mv (.tmp 2)⟩,
⟨some 18,none,.bin .add .plain (.tmp 17) (.cst (.int .i64 8))⟩,
⟨some 2,none,.mv (.tmp 18)⟩]))
(.skip)))
(.seq (.reg [⟨some 19,none,.mv (.tmp 2)⟩,
⟨some 20,none,.mv (.tmp 0)⟩,
⟨some 21,none,.cvI .u8 (.tmp 20)⟩,
⟨some 22,none,.idxStr (.cst (.str bytes0)) (.tmp 21)⟩,
⟨some 23,none,.cvI .i64 (.tmp 22)⟩,
⟨some 24,none,.bin .add .plain (.tmp 19) (.tmp 23)⟩,
⟨some 2,none,.mv (.tmp 24)⟩])
(.ret)))))⟩
theorem tr90 : trF Go.Proofs.Tryd.prog { obj := [],bare := [],loops := [],draws := [],glob := globs,fresh := false } Go.Proofs.Tryd.f90 = some ir90 := by kernel_rfl
def ir91 : IFn := ⟨70,[.cell 4 4 true false,.tmp 5 false],
.seq (.reg [⟨some 4,none,.allocz [(.int .i64 0),(.int .i64 0),(.bool false),(.int .u64 0)] false⟩,
⟨some 5,none,.mv (.cst (.int .i64 0))⟩])
(.seq (.reg [⟨some 7,none,.mv (.tmp 0)⟩,
⟨some 8,none,.nilc (.tmp 7)⟩,
⟨some 9,none,.fad (.tmp 8) 4⟩,
⟨some 10,none,.load (.tmp 9) 1 false⟩,
⟨some 11,none,.mv (.tmp 1)⟩,
⟨some 12,none,.call 82 [(.tmp 10),(.tmp 11)]⟩,
⟨some 6,none,.mv (.tmp 12)⟩])
(.seq (.seq (.reg [⟨some 13,none,.mv (.tmp 6)⟩,
⟨some 14,none,.bin .geq .plain (.tmp 13) (.cst (.int .i64 0))⟩])
(.cond (.tmp 14)
(.seq (.reg [⟨some 15,none,.mv (.tmp 0)⟩,
⟨some 16,none,.nilc (.tmp 15)⟩,
⟨some 17,none,.fad (.tmp 16) 4⟩,
⟨some 18,none,.load (.tmp 17) 1 false⟩,
⟨some 19,none,.mv (.tmp 6)⟩,
⟨some 20,none,.idxS (.tmp 18) (.tmp 19) 5⟩,
⟨some 21,none,.fad (.tmp 20) 1⟩,
⟨some 22,none,.load (.tmp 21) 4 true⟩,
⟨none,none,.store (.tmp 4) (.tmp 22) 4⟩,
⟨some 5,none,.mv (.cst (.int .i64 0))⟩])
(.ret))
(.skip)))
(.seq (.reg [⟨some 23,none,.mv (.tmp 0)⟩,
⟨some 24,none,.nilc (.tmp 23)⟩,
⟨some 25,none,.fad (.tmp 24) 3⟩,
⟨some 26,none,.load (.tmp 25) 1 false⟩,
⟨some 27,none,.mv (.tmp 1)⟩,
⟨some 28,none,.call 82 [(.tmp 26),(.tmp 27)]⟩,
⟨some 6,none,.mv (.tmp 28)⟩])
(.seq (.seq (.reg [⟨some 29,none,.mv (.tmp 6)⟩,
⟨some 30,none,.bin .geq .plain (.tmp 29) (.cst (.int .i64 0))⟩])
(.cond (.tmp 30)
(.seq (.reg [⟨some 31,none,.mv (.tmp 0)⟩,
⟨some 32,none,.nilc (.tmp 31)⟩,
⟨some 33,none,.fad (.tmp 32) 3⟩,
⟨some 34,none,.load (.tmp 33) 1 false⟩,
⟨some 35,none,.mv (.tmp 6)⟩,
⟨some 36,none,.idxS (.tmp 34) (.tmp 35) 5⟩,
⟨some 37,none,.fad (.tmp 36) 1⟩,
⟨some 38,none,.load (.tmp 37) 4 true⟩,
⟨none,none,.store (.tmp 4) (.tmp 38) 4⟩,
⟨some 5,none,.mv (.cst (.int .i64 0))⟩])
(.ret))
(.skip)))
(.seq (.reg [⟨some 39,none,.mv (.tmp 0)⟩,
⟨some 40,none,.nilc (.tmp 39)⟩,
⟨some 41,none,.fad (.tmp 40) 0⟩,
⟨some 42,none,.load (.tmp 41) 3 true⟩,
⟨some 43,none,.mv (.tmp 1)⟩,
⟨some 44,none,.call 81 [(.tmp 42),(.tmp 43)]⟩,
⟨some 6,none,.mv (.tmp 44)⟩])
(.seq (.seq (.reg [⟨some 45,none,.mv (.tmp 6)⟩,
⟨some 46,none,.bin .geq .plain (.tmp 45) (.cst (.int .i64 0))⟩,
⟨some 47,none,.mv (.tmp 46)⟩,
⟨some 48,some (47,true),.mv (.tmp 0)⟩,
⟨some 49,some (47,true),.nilc (.tmp 48)⟩,
⟨some 50,some (47,true),.fad (.tmp 49) 0⟩,
⟨some 51,some (47,true),.fad (.tmp 50) 0⟩,
⟨some 52,some (47,true),.load (.tmp 51) 1 false⟩,
⟨some 53,some (47,true),.mv (.tmp 6)⟩,
⟨some 54,some (47,true),.idxS (.tmp 52) (.tmp 53) 4⟩,
⟨some 55,some (47,true),.fad (.tmp 54) 3⟩,
⟨some 56,some (47,true),.load (.tmp 55) 1 false⟩,
⟨some 57,some (47,true),.bin .eql .plain (.tmp 56) (.cst (.int .i64 0))⟩,
⟨some 58,none,.pick (.tmp 47) (.tmp 57) (.cst (.bool false))⟩])
(.cond (.tmp 58)
(.seq (.reg [⟨some 59,none,.mv (.tmp 0)⟩,
⟨some 60,none,.nilc (.tmp 59)⟩,
⟨some 61,none,.fad (.tmp 60) 0⟩,
⟨some 62,none,.fad (.tmp 61) 0⟩,
⟨some 63,none,.load (.tmp 62) 1 false⟩,
⟨some 64,none,.mv (.tmp 6)⟩,
⟨some 65,none,.idxS (.tmp 63) (.tmp 64) 4⟩,
⟨some 66,none,.fad (.tmp 65) 2⟩,
⟨some 67,none,.load (.tmp 66) 1 false⟩,
⟨some 68,none,.call 94 [(.tmp 67)]⟩,
⟨none,none,.store (.tmp 4) (.tmp 68) 4⟩,
⟨some 5,none,.mv (.cst (.int .i64 0))⟩])
(.ret))
(.skip)))
(.seq (.reg [⟨some 69,none,.bld [(.int .i64 0),(.int .i64 0),(.bool false),(.int .u64 0)] []⟩,
⟨none,none,.store (.tmp 4) (.tmp 69) 4⟩,
⟨some 5,none,.mv (.cst (.int .i64 4))⟩])
(.ret))))))))⟩
theorem tr91 : trF Go.Proofs.Tryd.prog { obj := [],bare := [],loops := [],draws := [],glob := globs,fresh := false } Go.Proofs.Tryd.f91 = some ir91 := by kernel_rfl
def ir92 : IFn := ⟨97,[.cell 6 4 true false,.tmp 7 false],
.seq (.reg [⟨some 5,none,.box (.tmp 2) false⟩,
⟨some 6,none,.allocz [(.int .i64 0),(.int .i64 0),(.bool false),(.int .u64 0)] false⟩,
⟨some 7,none,.mv (.cst (.int .i64 0))⟩])
(.seq (.draw [(⟨some 14,none,.mv (.tmp 0)⟩,0,[]),
(⟨some 15,none,.nilc (.tmp 14)⟩,1,[]),
(⟨some 16,none,.fad (.tmp 15) 0⟩,2,[]),
(⟨some 17,none,.load (.tmp 16) 3 true⟩,3,[]),
(⟨some 18,none,.mv (.tmp 1)⟩,4,[]),
(⟨some 20,none,.mv (.tmp 0)⟩,6,[]),
(⟨some 21,none,.nilc (.tmp 20)⟩,7,[]),
(⟨some 22,none,.fad (.tmp 21) 0⟩,8,[]),
(⟨some 23,none,.load (.tmp 22) 3 true⟩,9,[]),
(⟨some 24,none,.mv (.tmp 1)⟩,10,[]),
(⟨some 19,none,.call 81 [(.tmp 17),(.tmp 18)]⟩,5,[8]),
(⟨some 25,none,.call 65 [(.tmp 23),(.tmp 24)]⟩,11,[]),
(⟨some 8,none,.mv (.tmp 19)⟩,12,[]),
(⟨some 9,none,.mv (.tmp 25)⟩,13,[])])
(.seq (.seq (.reg [⟨some 26,none,.mv (.tmp 9)⟩,
⟨some 27,none,.bin .geq .plain (.tmp 26) (.cst (.int .i64 0))⟩])
(.cond (.tmp 27)
(.seq (.draw [(⟨some 29,none,.load (.tmp 5) 4 true⟩,0,[]),
(⟨some 30,none,.mv (.tmp 0)⟩,1,[]),
(⟨some 31,none,.nilc (.tmp 30)⟩,2,[]),
(⟨some 32,none,.fad (.tmp 31) 0⟩,3,[]),
(⟨some 33,none,.fad (.tmp 32) 1⟩,4,[]),
(⟨some 34,none,.load (.tmp 33) 1 false⟩,5,[]),
(⟨some 35,none,.mv (.tmp 9)⟩,6,[]),
(⟨some 36,none,.idxS (.tmp 34) (.tmp 35) 2⟩,7,[]),
(⟨some 37,none,.fad (.tmp 36) 1⟩,8,[]),
(⟨some 38,none,.load (.tmp 37) 1 false⟩,9,[]),
(⟨some 39,none,.call 66 [(.tmp 29),(.tmp 38)]⟩,10,[]),
(⟨some 28,none,.mv (.tmp 39)⟩,11,[]),
(⟨some 40,none,.ext (.tmp 28) 0⟩,12,[]),
(⟨some 41,none,.ext (.tmp 28) 1⟩,13,[]),
(⟨some 10,none,.mv (.tmp 40)⟩,14,[]),
(⟨some 11,none,.mv (.tmp 41)⟩,15,[])])
(.seq (.seq (.reg [⟨some 42,none,.mv (.tmp 11)⟩,
⟨some 43,none,.bin .neq .plain (.tmp 42) (.cst (.int .i64 0))⟩])
(.cond (.tmp 43)
(.seq (.reg [⟨some 44,none,.bld [(.int .i64 0),(.int .i64 0),(.bool false),(.int .u64 0)] []⟩,
⟨some 45,none,.mv (.tmp 11)⟩,
⟨none,none,.store (.tmp 6) (.tmp 44) 4⟩,
⟨some 7,none,.mv (.tmp 45)⟩])
(.ret))
(.skip)))
(.seq (.reg [⟨some 46,none,.mv (.tmp 0)⟩,
⟨some 47,none,.nilc (.tmp 46)⟩,
⟨some 48,none,.fad (.tmp 47) 5⟩,
⟨some 49,none,.load (.tmp 48) 1 false⟩,
⟨some 50,none,.mv (.tmp 9)⟩,
⟨some 51,none,.idxS (.tmp 49) (.tmp 50) 1⟩,
⟨some 52,none,.load (.tmp 51) 1 false⟩,
⟨some 53,none,.mv (.tmp 10)⟩,
⟨some 54,none,.idxS (.tmp 52) (.tmp 53) 1⟩,
⟨some 55,none,.load (.tmp 54) 1 false⟩,
⟨some 56,none,.call 94 [(.tmp 55)]⟩,
⟨none,none,.store (.tmp 6) (.tmp 56) 4⟩,
⟨some 7,none,.mv (.cst (.int .i64 0))⟩])
(.ret))))
(.skip)))
(.seq (.seq (.reg [⟨some 57,none,.mv (.tmp 8)⟩,
⟨some 58,none,.bin .lss .plain (.tmp 57) (.cst (.int .i64 0))⟩,
⟨some 59,none,.mv (.tmp 58)⟩,
⟨some 60,some (59,false),.mv (.tmp 0)⟩,
⟨some 61,some (59,false),.nilc (.tmp 60)⟩,
⟨some 62,some (59,false),.fad (.tmp 61) 0⟩,
⟨some 63,some (59,false),.fad (.tmp 62) 0⟩,
⟨some 64,some (59,false),.load (.tmp 63) 1 false⟩,
⟨some 65,some (59,false),.mv (.tmp 8)⟩,
⟨some 66,some (59,false),.idxS (.tmp 64) (.tmp 65) 4⟩,
⟨some 67,some (59,false),.fad (.tmp 66) 3⟩,
⟨some 68,some (59,false),.load (.tmp 67) 1 false⟩,
⟨some 69,some (59,false),.bin .eql .plain (.tmp 68) (.cst (.int .i64 0))⟩,
⟨some 70,none,.pick (.tmp 59) (.cst (.bool true)) (.tmp 69)⟩])
(.cond (.tmp 70)
(.seq (.reg [⟨some 71,none,.bld [(.int .i64 0),(.int .i64 0),(.bool false),(.int .u64 0)] []⟩,
⟨none,none,.store (.tmp 6) (.tmp 71) 4⟩,
⟨some 7,none,.mv (.cst (.int .i64 4))⟩])
(.ret))
(.skip)))
(.seq (.draw [(⟨some 73,none,.load (.tmp 5) 4 true⟩,0,[]),
(⟨some 74,none,.mv (.tmp 0)⟩,1,[]),
(⟨some 75,none,.nilc (.tmp 74)⟩,2,[]),
(⟨some 76,none,.fad (.tmp 75) 0⟩,3,[]),
(⟨some 77,none,.fad (.tmp 76) 0⟩,4,[]),
(⟨some 78,none,.load (.tmp 77) 1 false⟩,5,[]),
(⟨some 79,none,.mv (.tmp 8)⟩,6,[]),
(⟨some 80,none,.idxS (.tmp 78) (.tmp 79) 4⟩,7,[]),
(⟨some 81,none,.fad (.tmp 80) 3⟩,8,[]),
(⟨some 82,none,.load (.tmp 81) 1 false⟩,9,[]),
(⟨some 83,none,.call 66 [(.tmp 73),(.tmp 82)]⟩,10,[]),
(⟨some 72,none,.mv (.tmp 83)⟩,11,[]),
(⟨some 84,none,.ext (.tmp 72) 0⟩,12,[]),
(⟨some 85,none,.ext (.tmp 72) 1⟩,13,[]),
(⟨some 12,none,.mv (.tmp 84)⟩,14,[]),
(⟨some 13,none,.mv (.tmp 85)⟩,15,[])])
(.seq (.reg [⟨some 86,none,.mv (.tmp 0)⟩,
⟨some 87,none,.nilc (.tmp 86)⟩,
⟨some 88,none,.fad (.tmp 87) 0⟩,
⟨some 89,none,.fad (.tmp 88) 0⟩,
⟨some 90,none,.load (.tmp 89) 1 false⟩,
⟨some 91,none,.mv (.tmp 8)⟩,
⟨some 92,none,.idxS (.tmp 90) (.tmp 91) 4⟩,
⟨some 93,none,.fad (.tmp 92) 2⟩,
⟨some 94,none,.load (.tmp 93) 1 false⟩,
⟨some 95,none,.call 94 [(.tmp 94)]⟩,
⟨some 96,none,.mv (.tmp 13)⟩,
⟨none,none,.store (.tmp 6) (.tmp 95) 4⟩,
⟨some 7,none,.mv (.tmp 96)⟩])
(.ret))))))⟩
theorem tr92 : trF Go.Proofs.Tryd.prog { obj := [],bare := [],loops := [],draws := [(1,([0,1,3,7,0,31,0,64,192,448,0,2047,4095,8191],[(0,[]),(1,[]),(2,[]),(3,[]),(4,[]),(6,[]),(7,[]),(8,[]),(9,[]),(10,[]),(5,[8]),(11,[]),(12,[]),(13,[])])),(3,([0,0,2,6,14,30,0,126,254,510,1023,2047,4095,4095,8191,32767],[(0,[]),(1,[]),(2,[]),(3,[]),(4,[]),(5,[]),(6,[]),(7,[]),(8,[]),(9,[]),(10,[]),(11,[]),(12,[]),(13,[]),(14,[]),(15,[])])),(9,([0,0,2,6,14,30,0,126,254,510,1023,2047,4095,4095,8191,32767],[(0,[]),(1,[]),(2,[]),(3,[]),(4,[]),(5,[]),(6,[]),(7,[]),(8,[]),(9,[]),(10,[]),(11,[]),(12,[]),(13,[]),(14,[]),(15,[])]))],glob := globs,fresh := false } Go.Proofs.Tryd.f92 = some ir92 := by kernel_rfl
def ir93 : IFn := ⟨98,[.cell 6 4 true false,.tmp 7 false],
.seq (.reg [⟨some 4,none,.box (.tmp 1) false⟩,
⟨some 5,none,.box (.tmp 2) false⟩,
⟨some 6,none,.allocz [(.int .i64 0),(.int .i64 0),(.bool false),(.int .u64 0)] false⟩,
⟨some 7,none,.mv (.cst (.int .i64 0))⟩])
(.seq (.reg [⟨some 10,none,.mv (.tmp 0)⟩,
⟨some 11,none,.bin .eql .plain (.tmp 10) (.cst (.int .i64 6))⟩,
⟨some 12,none,.mv (.tmp 11)⟩,
⟨some 13,some (12,false),.mv (.tmp 0)⟩,
⟨some 14,some (12,false),.bin .eql .plain (.tmp 13) (.cst (.int .i64 7))⟩,
⟨some 15,none,.pick (.tmp 12) (.cst (.bool true)) (.tmp 14)⟩,
⟨some 8,none,.mv (.tmp 15)⟩])
(.seq (.seq (.reg [⟨some 16,none,.mv (.tmp 8)⟩,
⟨some 17,none,.fad (.tmp 4) 0⟩,
⟨some 18,none,.load (.tmp 17) 1 false⟩,
⟨some 19,none,.bin .eql .plain (.tmp 18) (.cst (.int .i64 2))⟩,
⟨some 20,none,.bin .neq .bool (.tmp 16) (.tmp 19)⟩,
⟨some 21,none,.mv (.tmp 20)⟩,
⟨some 22,some (21,false),.mv (.tmp 8)⟩,
⟨some 23,some (21,false),.fad (.tmp 5) 0⟩,
⟨some 24,some (21,false),.load (.tmp 23) 1 false⟩,
⟨some 25,some (21,false),.bin .eql .plain (.tmp 24) (.cst (.int .i64 2))⟩,
⟨some 26,some (21,false),.bin .neq .bool (.tmp 22) (.tmp 25)⟩,
⟨some 27,none,.pick (.tmp 21) (.cst (.bool true)) (.tmp 26)⟩])
(.cond (.tmp 27)
(.seq (.reg [⟨some 28,none,.bld [(.int .i64 0),(.int .i64 0),(.bool false),(.int .u64 0)] []⟩,
⟨none,none,.store (.tmp 6) (.tmp 28) 4⟩,
⟨some 7,none,.mv (.cst (.int .i64 5))⟩])
(.ret))
(.skip)))
(.seq (.reg [⟨some 29,none,.fad (.tmp 4) 2⟩,
⟨some 30,none,.load (.tmp 29) 1 false⟩,
⟨some 31,none,.mv (.tmp 30)⟩,
⟨some 32,some (31,true),.fad (.tmp 5) 2⟩,
⟨some 33,some (31,true),.load (.tmp 32) 1 false⟩,
⟨some 34,none,.pick (.tmp 31) (.tmp 33) (.cst (.bool false))⟩,
⟨some 35,none,.bld [(.int .i64 0),(.int .i64 0),(.bool false),(.int .u64 0)] [(0,1,(.cst (.int .i64 1))),(2,1,(.tmp 34))]⟩,
⟨some 9,none,.allocz [(.int .i64 0),(.int .i64 0),(.bool false),(.int .u64 0)] false⟩,
⟨none,none,.store (.tmp 9) (.tmp 35) 4⟩])
(.seq (.seq (.reg [⟨some 36,none,.mv (.tmp 0)⟩])
(.block 0
(.seq (.reg [⟨some 39,none,.bin .eql .plain (.tmp 36) (.cst (.int .i64 1))⟩,
⟨some 38,none,.mv (.tmp 39)⟩])
(.cond (.tmp 38)
(.reg [⟨some 40,none,.fad (.tmp 4) 1⟩,
⟨some 41,none,.load (.tmp 40) 1 false⟩,
⟨some 42,none,.fad (.tmp 5) 1⟩,
⟨some 43,none,.load (.tmp 42) 1 false⟩,
⟨some 44,none,.max [(.tmp 41),(.tmp 43)]⟩,
⟨some 45,none,.bin .add .plain (.tmp 44) (.cst (.int .i64 1))⟩,
⟨some 46,none,.fad (.tmp 9) 1⟩,
⟨none,none,.store (.tmp 46) (.tmp 45) 1⟩])
(.seq (.reg [⟨some 48,none,.bin .eql .plain (.tmp 36) (.cst (.int .i64 2))⟩,
⟨some 47,none,.mv (.tmp 48)⟩])
(.cond (.tmp 47)
(.reg [⟨some 49,none,.fad (.tmp 4) 1⟩,
⟨some 50,none,.load (.tmp 49) 1 false⟩,
⟨some 51,none,.fad (.tmp 9) 1⟩,
⟨none,none,.store (.tmp 51) (.tmp 50) 1⟩])
(.seq (.reg [⟨some 53,none,.bin .eql .plain (.tmp 36) (.cst (.int .i64 3))⟩,
⟨some 52,none,.mv (.tmp 53)⟩])
(.cond (.tmp 52)
(.reg [⟨some 54,none,.fad (.tmp 4) 1⟩,
⟨some 55,none,.load (.tmp 54) 1 false⟩,
⟨some 56,none,.fad (.tmp 5) 1⟩,
⟨some 57,none,.load (.tmp 56) 1 false⟩,
⟨some 58,none,.bin .add .plain (.tmp 55) (.tmp 57)⟩,
⟨some 59,none,.fad (.tmp 9) 1⟩,
⟨none,none,.store (.tmp 59) (.tmp 58) 1⟩])
(.seq (.reg [⟨some 37,none,.bld [(.int .i64 0),(.int .i64 0),(.bool false),(.int .u64 0)] [(0,1,(.cst (.int .i64 2)))]⟩,
⟨none,none,.store (.tmp 6) (.tmp 37) 4⟩,
⟨some 7,none,.mv (.cst (.int .i64 0))⟩])
(.ret))))))))))
(.seq (.seq (.reg [⟨some 60,none,.fad (.tmp 9) 2⟩,
⟨some 61,none,.load (.tmp 60) 1 false⟩,
⟨some 62,none,.mv (.tmp 61)⟩,
⟨some 63,some (62,true),.fad (.tmp 9) 1⟩,
⟨some 64,some (62,true),.load (.tmp 63) 1 false⟩,
⟨some 65,some (62,true),.bin .leq .plain (.tmp 64) (.cst (.int .i64 60))⟩,
⟨some 66,none,.pick (.tmp 62) (.tmp 65) (.cst (.bool false))⟩])
(.cond (.tmp 66)
(.block 1
(.seq (.reg [⟨some 68,none,.mv (.tmp 0)⟩,
⟨some 69,none,.bin .eql .plain (.tmp 68) (.cst (.int .i64 1))⟩,
⟨some 67,none,.mv (.tmp 69)⟩])
(.cond (.tmp 67)
(.reg [⟨some 70,none,.fad (.tmp 4) 3⟩,
⟨some 71,none,.load (.tmp 70) 1 false⟩,
⟨some 72,none,.fad (.tmp 5) 3⟩,
⟨some 73,none,.load (.tmp 72) 1 false⟩,
⟨some 74,none,.bin .add .plain (.tmp 71) (.tmp 73)⟩,
⟨some 75,none,.fad (.tmp 9) 3⟩,
⟨none,none,.store (.tmp 75) (.tmp 74) 1⟩])
(.seq (.reg [⟨some 77,none,.mv (.tmp 0)⟩,
⟨some 78,none,.bin .eql .plain (.tmp 77) (.cst (.int .i64 3))⟩,
⟨some 76,none,.mv (.tmp 78)⟩])
(.cond (.tmp 76)
(.reg [⟨some 79,none,.fad (.tmp 4) 3⟩,
⟨some 80,none,.load (.tmp 79) 1 false⟩,
⟨some 81,none,.fad (.tmp 5) 3⟩,
⟨some 82,none,.load (.tmp 81) 1 false⟩,
⟨some 83,none,.bin .mul .plain (.tmp 80) (.tmp 82)⟩,
⟨some 84,none,.fad (.tmp 9) 3⟩,
⟨none,none,.store (.tmp 84) (.tmp 83) 1⟩])
(.seq (.reg [⟨some 86,none,.fad (.tmp 5) 3⟩,
⟨some 87,none,.load (.tmp 86) 1 false⟩,
⟨some 88,none,.fad (.tmp 4) 3⟩,
⟨some 89,none,.load (.tmp 88) 1 false⟩,
⟨some 90,none,.bin .leq .plain (.tmp 87) (.tmp 89)⟩,
⟨some 85,none,.mv (.tmp 90)⟩])
(.cond (.tmp 85)
(.reg [⟨some 91,none,.fad (.tmp 4) 3⟩,
⟨some 92,none,.load (.tmp 91) 1 false⟩,
⟨some 93,none,.fad (.tmp 5) 3⟩,
⟨some 94,none,.load (.tmp 93) 1 false⟩,
⟨some 95,none,.bin .sub .plain (.tmp 92) (.tmp 94)⟩,
⟨some 96,none,.fad (.tmp 9) 3⟩,
⟨none,none,.store (.tmp 96) (.tmp 95) 1⟩])
(.skip))))))))
(.skip)))
(.seq (.reg [⟨some 97,none,.load (.tmp 9) 4 true⟩,
⟨none,none,.store (.tmp 6) (.tmp 97) 4⟩,
⟨some 7,none,.mv (.cst (.int .i64 0))⟩])
(.ret)))))))⟩
theorem tr93 : trF Go.Proofs.Tryd.prog { obj := [],bare := [],loops := [],draws := [],glob := globs,fresh := false } Go.Proofs.Tryd.f93 = some ir93 := by kernel_rfl
def ir94 : IFn := ⟨5,[.cell 2 4 true false],
.seq (.reg [⟨some 2,none,.allocz [(.int .i64 0),(.int .i64 0),(.bool false),(.int .u64 0)] false⟩])
(.seq (.reg [⟨some 3,none,.mv (.tmp 0)⟩,
⟨some 4,none,.bld [(.int .i64 0),(.int .i64 0),(.bool false),(.int .u64 0)] [(0,1,(.cst (.int .i64 1))),(1,1,(.tmp 3))]⟩,
⟨none,none,.store (.tmp 2) (.tmp 4) 4⟩])
(.ret))⟩
theorem tr94 : trF Go.Proofs.Tryd.prog { obj := [],bare := [],loops := [],draws := [],glob := globs,fresh := false } Go.Proofs.Tryd.f94 = some ir94 := by kernel_rfl
end Go.Ab.YtihmoaibgmhjeaaDoor
