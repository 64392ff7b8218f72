/- The functions of this seat in the small language of the layer Ab (printed by program), and that they are what the loaded functions are brought into. -/
import Derived.Test.YtgfnhkedfmnijaaMa
import Derived.Test.YtgfnhkedfmnijaaProg
import Derived.KernelRfl
set_option maxRecDepth 100000
namespace Go.Ab.Ytgfnhkedfmnijaa

def bytes0 : ByteArray := ⟨#[0, 1, 2, 2, 3, 3, 3, 3, 4, 4, 4, 4, 4, 4, 4, 4, 5, 5, 5, 5, 5, 5, 5, 5, 5, 5, 5, 5, 5, 5, 5, 5, 6, 6, 6, 6, 6, 6, 6, 6, 6, 6, 6, 6, 6, 6, 6, 6, 6, 6, 6, 6, 6, 6, 6, 6, 6, 6, 6, 6, 6, 6, 6, 6, 7, 7, 7, 7, 7, 7, 7, 7, 7, 7, 7, 7, 7, 7, 7, 7, 7, 7, 7, 7, 7, 7, 7, 7, 7, 7, 7, 7, 7, 7, 7, 7, 7, 7, 7, 7, 7, 7, 7, 7, 7, 7, 7, 7, 7, 7, 7, 7, 7, 7, 7, 7, 7, 7, 7, 7, 7, 7, 7, 7, 7, 7, 7, 7, 8, 8, 8, 8, 8, 8, 8, 8, 8, 8, 8, 8, 8, 8, 8, 8, 8, 8, 8, 8, 8, 8, 8, 8, 8, 8, 8, 8, 8, 8, 8, 8, 8, 8, 8, 8, 8, 8, 8, 8, 8, 8, 8, 8, 8, 8, 8, 8, 8, 8, 8, 8, 8, 8, 8, 8, 8, 8, 8, 8, 8, 8, 8, 8, 8, 8, 8, 8, 8, 8, 8, 8, 8, 8, 8, 8, 8, 8, 8, 8, 8, 8, 8, 8, 8, 8, 8, 8, 8, 8, 8, 8, 8, 8, 8, 8, 8, 8, 8, 8, 8, 8, 8, 8, 8, 8, 8, 8, 8, 8, 8, 8, 8, 8, 8, 8, 8, 8, 8, 8, 8, 8, 8, 8, 8, 8, 8, 8]⟩

/-- privity/privitylaw34.GadgetFieldGates -/
def ir3 : IFn := ⟨109, [.tmp 6 false],
  .seq (.reg [⟨some 4, none, .box (.tmp 1) false⟩,
    ⟨some 6, none, .mv (.cst (.bool false))⟩])
  (.seq (.seq (.reg [⟨some 11, none, .call 10 []⟩,
    ⟨some 12, none, .un .not (.tmp 11)⟩])
  (.cond (.tmp 12)
   (.seq (.reg [⟨some 6, none, .mv (.cst (.bool false))⟩])
   (.ret))
   (.skip)))
  (.seq (.seq (.reg [⟨some 13, none, .mv (.tmp 0)⟩,
    ⟨some 14, none, .call 11 [(.tmp 13)]⟩,
    ⟨some 15, none, .un .not (.tmp 14)⟩,
    ⟨some 16, none, .mv (.tmp 15)⟩,
    ⟨some 17, some (16, false), .idxP (.tmp 4) (.cst (.int .i64 0)) 2 1⟩,
    ⟨some 18, some (16, false), .load (.tmp 17) 1 false⟩,
    ⟨some 19, some (16, false), .mv (.tmp 0)⟩,
    ⟨some 20, some (16, false), .bin .geq .plain (.tmp 18) (.tmp 19)⟩,
    ⟨some 21, none, .pick (.tmp 16) (.cst (.bool true)) (.tmp 20)⟩,
    ⟨some 22, none, .mv (.tmp 21)⟩,
    ⟨some 23, some (22, false), .idxP (.tmp 4) (.cst (.int .i64 1)) 2 1⟩,
    ⟨some 24, some (22, false), .load (.tmp 23) 1 false⟩,
    ⟨some 25, some (22, false), .mv (.tmp 0)⟩,
    ⟨some 26, some (22, false), .bin .geq .plain (.tmp 24) (.tmp 25)⟩,
    ⟨some 27, none, .pick (.tmp 22) (.cst (.bool true)) (.tmp 26)⟩,
    ⟨some 28, none, .mv (.tmp 27)⟩,
    ⟨some 29, some (28, false), .mv (.tmp 2)⟩,
    ⟨some 30, some (28, false), .mv (.tmp 0)⟩,
    ⟨some 31, some (28, false), .bin .geq .plain (.tmp 29) (.tmp 30)⟩,
    ⟨some 32, none, .pick (.tmp 28) (.cst (.bool true)) (.tmp 31)⟩])
  (.cond (.tmp 32)
   (.seq (.reg [⟨some 6, none, .mv (.cst (.bool true))⟩])
   (.ret))
   (.skip)))
  (.seq (.reg [⟨some 33, none, .mv (.tmp 0)⟩,
    ⟨some 34, none, .call 12 [(.tmp 33)]⟩,
    ⟨some 7, none, .mv (.tmp 34)⟩])
  (.seq (.reg [⟨some 35, none, .mv (.tmp 7)⟩,
    ⟨some 36, none, .call 13 [(.tmp 35), (.cst (.int .i64 1)), (.cst (.bool false))]⟩,
    ⟨some 8, none, .mv (.tmp 36)⟩])
  (.seq (.reg [⟨some 37, none, .mv (.tmp 7)⟩,
    ⟨some 38, none, .call 13 [(.tmp 37), (.cst (.int .i64 2)), (.cst (.bool false))]⟩,
    ⟨some 9, none, .mv (.tmp 38)⟩])
  (.seq (.reg [⟨some 39, none, .mv (.tmp 7)⟩,
    ⟨some 40, none, .mv (.tmp 7)⟩,
    ⟨some 41, none, .mv (.tmp 8)⟩,
    ⟨some 42, none, .mv (.tmp 9)⟩,
    ⟨some 43, none, .call 15 [(.tmp 40), (.tmp 41), (.tmp 42)]⟩,
    ⟨some 44, none, .call 14 [(.tmp 39), (.tmp 43)]⟩])
  (.seq (.reg [⟨some 45, none, .mv (.tmp 7)⟩,
    ⟨some 46, none, .mv (.tmp 7)⟩,
    ⟨some 47, none, .mv (.tmp 8)⟩,
    ⟨some 48, none, .mv (.tmp 9)⟩,
    ⟨some 49, none, .call 16 [(.tmp 46), (.tmp 47), (.tmp 48)]⟩,
    ⟨some 50, none, .call 14 [(.tmp 45), (.tmp 49)]⟩])
  (.seq (.reg [⟨some 51, none, .mv (.tmp 7)⟩,
    ⟨some 52, none, .mv (.tmp 7)⟩,
    ⟨some 53, none, .mv (.tmp 8)⟩,
    ⟨some 54, none, .mv (.tmp 9)⟩,
    ⟨some 55, none, .call 17 [(.tmp 52), (.tmp 53), (.tmp 54)]⟩,
    ⟨some 56, none, .call 14 [(.tmp 51), (.tmp 55)]⟩])
  (.seq (.reg [⟨some 57, none, .mv (.tmp 7)⟩,
    ⟨some 58, none, .mv (.tmp 7)⟩,
    ⟨some 59, none, .mv (.tmp 2)⟩,
    ⟨some 60, none, .mv (.tmp 8)⟩,
    ⟨some 61, none, .call 18 [(.tmp 58), (.tmp 59), (.tmp 60)]⟩,
    ⟨some 62, none, .call 14 [(.tmp 57), (.tmp 61)]⟩])
  (.seq (.reg [⟨some 63, none, .mv (.tmp 7)⟩,
    ⟨some 64, none, .mv (.tmp 7)⟩,
    ⟨some 65, none, .mv (.tmp 2)⟩,
    ⟨some 66, none, .call 19 [(.tmp 64), (.tmp 65)]⟩,
    ⟨some 67, none, .call 14 [(.tmp 63), (.tmp 66)]⟩])
  (.seq (.reg [⟨some 68, none, .mv (.tmp 7)⟩,
    ⟨some 69, none, .mv (.tmp 8)⟩,
    ⟨some 70, none, .call 14 [(.tmp 68), (.tmp 69)]⟩])
  (.seq (.draw [(⟨some 71, none, .mv (.tmp 0)⟩, 0, []),
    (⟨some 72, none, .idxP (.tmp 4) (.cst (.int .i64 0)) 2 1⟩, 1, []),
    (⟨some 73, none, .load (.tmp 72) 1 false⟩, 2, []),
    (⟨some 74, none, .idxP (.tmp 4) (.cst (.int .i64 1)) 2 1⟩, 3, []),
    (⟨some 75, none, .load (.tmp 74) 1 false⟩, 4, []),
    (⟨some 77, none, .mv (.tmp 0)⟩, 6, []),
    (⟨some 78, none, .idxP (.tmp 4) (.cst (.int .i64 0)) 2 1⟩, 7, []),
    (⟨some 79, none, .load (.tmp 78) 1 false⟩, 8, []),
    (⟨some 80, none, .idxP (.tmp 4) (.cst (.int .i64 1)) 2 1⟩, 9, []),
    (⟨some 81, none, .load (.tmp 80) 1 false⟩, 10, []),
    (⟨some 83, none, .mv (.tmp 0)⟩, 12, []),
    (⟨some 84, none, .idxP (.tmp 4) (.cst (.int .i64 0)) 2 1⟩, 13, []),
    (⟨some 85, none, .load (.tmp 84) 1 false⟩, 14, []),
    (⟨some 86, none, .idxP (.tmp 4) (.cst (.int .i64 1)) 2 1⟩, 15, []),
    (⟨some 87, none, .load (.tmp 86) 1 false⟩, 16, []),
    (⟨some 89, none, .mv (.tmp 0)⟩, 18, []),
    (⟨some 90, none, .mv (.tmp 2)⟩, 19, []),
    (⟨some 91, none, .idxP (.tmp 4) (.cst (.int .i64 0)) 2 1⟩, 20, []),
    (⟨some 92, none, .load (.tmp 91) 1 false⟩, 21, []),
    (⟨some 94, none, .mv (.tmp 2)⟩, 23, []),
    (⟨some 95, none, .idxP (.tmp 4) (.cst (.int .i64 0)) 2 1⟩, 24, []),
    (⟨some 96, none, .load (.tmp 95) 1 false⟩, 25, []),
    (⟨some 76, none, .call 20 [(.tmp 71), (.cst (.int .i64 0)), (.tmp 73), (.tmp 75), (.cst (.int .u64 0))]⟩, 5, [7, 9, 12, 14, 18, 21]),
    (⟨some 82, none, .call 20 [(.tmp 77), (.cst (.int .i64 1)), (.tmp 79), (.tmp 81), (.cst (.int .u64 0))]⟩, 11, [12, 14, 18, 21]),
    (⟨some 88, none, .call 20 [(.tmp 83), (.cst (.int .i64 2)), (.tmp 85), (.tmp 87), (.cst (.int .u64 0))]⟩, 17, [18, 21]),
    (⟨some 93, none, .call 21 [(.tmp 89), (.tmp 90), (.tmp 92)]⟩, 22, [21]),
    (⟨some 97, none, .bsl 6 1 false [(.int .u64 0)] [(0, 1, (.tmp 76)), (1, 1, (.tmp 82)), (2, 1, (.tmp 88)), (3, 1, (.tmp 93)), (4, 1, (.tmp 94)), (5, 1, (.tmp 96))]⟩, 26, []),
    (⟨some 10, none, .mv (.tmp 97)⟩, 27, [])])
  (.seq (.draw [(⟨some 98, none, .mv (.tmp 7)⟩, 0, []),
    (⟨some 100, none, .idxP (.tmp 4) (.cst (.int .i64 0)) 2 1⟩, 2, []),
    (⟨some 101, none, .load (.tmp 100) 1 false⟩, 3, []),
    (⟨some 102, none, .bsl 1 1 false [(.int .u64 0)] [(0, 1, (.tmp 101))]⟩, 4, []),
    (⟨some 103, none, .idxP (.tmp 4) (.cst (.int .i64 1)) 2 1⟩, 5, []),
    (⟨some 104, none, .load (.tmp 103) 1 false⟩, 6, []),
    (⟨some 105, none, .bsl 1 1 false [(.int .u64 0)] [(0, 1, (.tmp 104))]⟩, 7, []),
    (⟨some 106, none, .bsl 2 1 false [(.vec [] .any)] [(0, 1, (.tmp 102)), (1, 1, (.tmp 105))]⟩, 8, []),
    (⟨some 107, none, .mv (.tmp 10)⟩, 9, []),
    (⟨some 99, none, .call 23 [(.tmp 98)]⟩, 1, [2, 5]),
    (⟨some 108, none, .call 22 [(.tmp 99), (.tmp 106), (.tmp 107)]⟩, 10, []),
    (⟨some 6, none, .mv (.tmp 108)⟩, 11, [])])
  (.ret))))))))))))))⟩

theorem tr3 : trF Go.Proofs.Try.prog { obj := [], bare := [], loops := [], draws := [(14, ([0, 0, 2, 0, 8, 31, 0, 0, 128, 0, 512, 2047, 0, 0, 8192, 0, 32768, 131071, 0, 0, 0, 1048576, 4194303, 0, 0, 16777216, 67108863, 134217727], [(0, []), (1, []), (2, []), (3, []), (4, []), (6, []), (7, []), (8, []), (9, []), (10, []), (12, []), (13, []), (14, []), (15, []), (16, []), (18, []), (19, []), (20, []), (21, []), (23, []), (24, []), (25, []), (5, [7, 9, 12, 14, 18, 21]), (11, [12, 14, 18, 21]), (17, [18, 21]), (22, [21]), (26, []), (27, [])])), (15, ([0, 1, 0, 4, 12, 0, 32, 96, 252, 0, 1023, 2047], [(0, []), (2, []), (3, []), (4, []), (5, []), (6, []), (7, []), (8, []), (9, []), (1, [2, 5]), (10, []), (11, [])]))], glob := [], fresh := false } Go.Proofs.Try.f3 = some ir3 := by kernel_rfl

/-- privity/privitylaw34.GadgetInputOrder -/
def ir4 : IFn := ⟨114, [.tmp 6 false],
  .seq (.reg [⟨some 6, none, .mv (.cst (.bool false))⟩])
  (.seq (.seq (.reg [⟨some 16, none, .call 10 []⟩,
    ⟨some 17, none, .un .not (.tmp 16)⟩])
  (.cond (.tmp 17)
   (.seq (.reg [⟨some 6, none, .mv (.cst (.bool false))⟩])
   (.ret))
   (.skip)))
  (.seq (.seq (.reg [⟨some 18, none, .mv (.tmp 0)⟩,
    ⟨some 19, none, .call 11 [(.tmp 18)]⟩,
    ⟨some 20, none, .un .not (.tmp 19)⟩,
    ⟨some 21, none, .mv (.tmp 20)⟩,
    ⟨some 22, some (21, false), .mv (.tmp 1)⟩,
    ⟨some 23, some (21, false), .len .i (.tmp 22)⟩,
    ⟨some 24, some (21, false), .bin .gtr .plain (.tmp 23) (.cst (.int .i64 20))⟩,
    ⟨some 25, none, .pick (.tmp 21) (.cst (.bool true)) (.tmp 24)⟩,
    ⟨some 26, none, .mv (.tmp 25)⟩,
    ⟨some 27, some (26, false), .mv (.tmp 2)⟩,
    ⟨some 28, some (26, false), .len .i (.tmp 27)⟩,
    ⟨some 29, some (26, false), .mv (.tmp 1)⟩,
    ⟨some 30, some (26, false), .len .i (.tmp 29)⟩,
    ⟨some 31, some (26, false), .bin .neq .plain (.tmp 28) (.tmp 30)⟩,
    ⟨some 32, none, .pick (.tmp 26) (.cst (.bool true)) (.tmp 31)⟩,
    ⟨some 33, none, .mv (.tmp 32)⟩,
    ⟨some 34, some (33, false), .mv (.tmp 0)⟩,
    ⟨some 35, some (33, false), .mv (.tmp 2)⟩,
    ⟨some 36, some (33, false), .call 24 [(.tmp 34), (.tmp 35)]⟩,
    ⟨some 37, some (33, false), .un .not (.tmp 36)⟩,
    ⟨some 38, none, .pick (.tmp 33) (.cst (.bool true)) (.tmp 37)⟩])
  (.cond (.tmp 38)
   (.seq (.reg [⟨some 6, none, .mv (.cst (.bool true))⟩])
   (.ret))
   (.skip)))
  (.seq (.reg [⟨some 39, none, .mv (.tmp 0)⟩,
    ⟨some 40, none, .call 12 [(.tmp 39)]⟩,
    ⟨some 7, none, .mv (.tmp 40)⟩])
  (.seq (.reg [⟨some 41, none, .mks (.cst (.int .i64 13)) (.cst (.int .i64 13)) 1 24 false [(.vec [] .full)] true⟩,
    ⟨some 8, none, .mv (.tmp 41)⟩])
  (.seq (.reg [⟨some 42, none, .mv (.tmp 7)⟩,
    ⟨some 43, none, .call 19 [(.tmp 42), (.cst (.int .u64 0))]⟩,
    ⟨some 9, none, .mv (.tmp 43)⟩])
  (.seq (.seq (.reg [⟨some 10, none, .mv (.cst (.int .i64 0))⟩])
  (.block 0
   (.loop [1, 2, 7, 8, 9, 10]
    (.seq (.seq (.reg [⟨some 44, none, .mv (.tmp 10)⟩,
      ⟨some 45, none, .mv (.tmp 1)⟩,
      ⟨some 46, none, .len .i (.tmp 45)⟩,
      ⟨some 47, none, .bin .lss .plain (.tmp 44) (.tmp 46)⟩])
    (.cond (.tmp 47)
     (.skip)
     (.brk 0)))
    (.seq (.block 1
     (.seq (.reg [⟨some 50, none, .mv (.tmp 1)⟩,
       ⟨some 51, none, .mv (.tmp 10)⟩,
       ⟨some 52, none, .idxS (.tmp 50) (.tmp 51) 1⟩,
       ⟨some 53, none, .load (.tmp 52) 1 false⟩,
       ⟨some 54, none, .cvI .i64 (.tmp 53)⟩,
       ⟨some 55, none, .bin .rem .plain (.tmp 54) (.cst (.int .i64 13))⟩,
       ⟨some 56, none, .bin .add .plain (.cst (.int .i64 1)) (.tmp 55)⟩,
       ⟨some 11, none, .mv (.tmp 56)⟩])
     (.seq (.reg [⟨some 57, none, .mv (.tmp 7)⟩,
       ⟨some 58, none, .mv (.tmp 11)⟩,
       ⟨some 59, none, .call 13 [(.tmp 57), (.tmp 58), (.cst (.bool false))]⟩,
       ⟨some 12, none, .mv (.tmp 59)⟩])
     (.seq (.reg [⟨some 60, none, .mv (.tmp 7)⟩,
       ⟨some 61, none, .mv (.tmp 7)⟩,
       ⟨some 62, none, .mv (.tmp 9)⟩,
       ⟨some 63, none, .mv (.tmp 12)⟩,
       ⟨some 64, none, .call 15 [(.tmp 61), (.tmp 62), (.tmp 63)]⟩,
       ⟨some 65, none, .mv (.tmp 7)⟩,
       ⟨some 66, none, .call 19 [(.tmp 65), (.cst (.int .u64 1))]⟩,
       ⟨some 67, none, .call 17 [(.tmp 60), (.tmp 64), (.tmp 66)]⟩,
       ⟨some 9, none, .mv (.tmp 67)⟩])
     (.seq (.reg [⟨some 68, none, .mv (.tmp 7)⟩,
       ⟨some 69, none, .mv (.tmp 12)⟩,
       ⟨some 70, none, .call 14 [(.tmp 68), (.tmp 69)]⟩])
     (.draw [(⟨some 71, none, .mv (.tmp 8)⟩, 0, []),
       (⟨some 72, none, .mv (.tmp 11)⟩, 1, []),
       (⟨some 73, none, .bin .sub .plain (.tmp 72) (.cst (.int .i64 1))⟩, 2, []),
       (⟨some 74, none, .mv (.tmp 8)⟩, 3, []),
       (⟨some 75, none, .mv (.tmp 11)⟩, 4, []),
       (⟨some 76, none, .bin .sub .plain (.tmp 75) (.cst (.int .i64 1))⟩, 5, []),
       (⟨some 77, none, .idxS (.tmp 74) (.tmp 76) 1⟩, 6, []),
       (⟨some 78, none, .load (.tmp 77) 1 false⟩, 7, []),
       (⟨some 79, none, .mv (.tmp 2)⟩, 8, []),
       (⟨some 80, none, .mv (.tmp 10)⟩, 9, []),
       (⟨some 81, none, .idxS (.tmp 79) (.tmp 80) 1⟩, 10, []),
       (⟨some 82, none, .load (.tmp 81) 1 false⟩, 11, []),
       (⟨some 83, none, .bsl 1 1 false [(.int .u64 0)] [(0, 1, (.tmp 82))]⟩, 12, []),
       (⟨some 84, none, .app (.tmp 78) (.tmp 83) 1 8 false true⟩, 13, []),
       (⟨some 85, none, .idxS (.tmp 71) (.tmp 73) 1⟩, 14, []),
       (⟨none, none, .store (.tmp 85) (.tmp 84) 1⟩, 15, [])]))))))
    (.reg [⟨some 48, none, .mv (.tmp 10)⟩,
      ⟨some 49, none, .bin .add .plain (.tmp 48) (.cst (.int .i64 1))⟩,
      ⟨some 10, none, .mv (.tmp 49)⟩]))))))
  (.seq (.reg [⟨some 86, none, .mv (.tmp 7)⟩,
    ⟨some 87, none, .call 23 [(.tmp 86)]⟩,
    ⟨some 13, none, .allocz [(.int .u64 0), (.vec [] .full), (.vec [] .full)] false⟩,
    ⟨none, none, .store (.tmp 13) (.tmp 87) 3⟩])
  (.seq (.reg [⟨some 14, none, .mv (.cst (.int .i64 0))⟩])
  (.seq (.seq (.reg [⟨some 15, none, .mv (.cst (.int .i64 0))⟩])
  (.block 2
   (.loop [1, 2, 8, 13, 14, 15]
    (.seq (.seq (.reg [⟨some 88, none, .mv (.tmp 15)⟩,
      ⟨some 89, none, .fad (.tmp 13) 1⟩,
      ⟨some 90, none, .load (.tmp 89) 1 false⟩,
      ⟨some 91, none, .len .i (.tmp 90)⟩,
      ⟨some 92, none, .bin .lss .plain (.tmp 88) (.tmp 91)⟩])
    (.cond (.tmp 92)
     (.skip)
     (.brk 2)))
    (.seq (.block 3
     (.seq (.reg [⟨some 95, none, .fad (.tmp 13) 1⟩,
       ⟨some 96, none, .load (.tmp 95) 1 false⟩,
       ⟨some 97, none, .mv (.tmp 15)⟩,
       ⟨some 98, none, .idxS (.tmp 96) (.tmp 97) 5⟩,
       ⟨some 99, none, .fad (.tmp 98) 0⟩,
       ⟨some 100, none, .load (.tmp 99) 1 false⟩,
       ⟨some 101, none, .bin .eql .plain (.tmp 100) (.cst (.int .i64 1))⟩])
     (.cond (.tmp 101)
      (.reg [⟨some 102, none, .mv (.tmp 14)⟩,
        ⟨some 103, none, .bin .add .plain (.tmp 102) (.cst (.int .i64 1))⟩,
        ⟨some 14, none, .mv (.tmp 103)⟩])
      (.skip))))
    (.reg [⟨some 93, none, .mv (.tmp 15)⟩,
      ⟨some 94, none, .bin .add .plain (.tmp 93) (.cst (.int .i64 1))⟩,
      ⟨some 15, none, .mv (.tmp 94)⟩]))))))
  (.seq (.reg [⟨some 104, none, .mv (.tmp 14)⟩,
    ⟨some 105, none, .mv (.tmp 1)⟩,
    ⟨some 106, none, .len .i (.tmp 105)⟩,
    ⟨some 107, none, .bin .eql .plain (.tmp 104) (.tmp 106)⟩,
    ⟨some 108, none, .mv (.tmp 107)⟩,
    ⟨some 109, some (108, true), .load (.tmp 13) 3 true⟩,
    ⟨some 110, some (108, true), .mv (.tmp 8)⟩,
    ⟨some 111, some (108, true), .mv (.tmp 2)⟩,
    ⟨some 112, some (108, true), .call 22 [(.tmp 109), (.tmp 110), (.tmp 111)]⟩,
    ⟨some 113, none, .pick (.tmp 108) (.tmp 112) (.cst (.bool false))⟩,
    ⟨some 6, none, .mv (.tmp 113)⟩])
  (.ret)))))))))))⟩

theorem tr4 : trF Go.Proofs.Try.prog { obj := [41, 84], bare := [], loops := [[1, 2, 7, 8, 9, 10], [1, 2, 8, 13, 14, 15]], draws := [(15, ([0, 0, 2, 0, 0, 16, 56, 120, 0, 0, 768, 1792, 3840, 8184, 16383, 32767], [(0, []), (1, []), (2, []), (3, []), (4, []), (5, []), (6, []), (7, []), (8, []), (9, []), (10, []), (11, []), (12, []), (13, []), (14, []), (15, [])]))], glob := [], fresh := false } Go.Proofs.Try.f4 = some ir4 := by kernel_rfl

/-- privity/privitylaw34.GadgetCircuitSnapshots -/
def ir5 : IFn := ⟨104, [.tmp 4 false],
  .seq (.reg [⟨some 3, none, .box (.tmp 1) false⟩,
    ⟨some 4, none, .mv (.cst (.bool false))⟩])
  (.seq (.seq (.reg [⟨some 12, none, .call 10 []⟩,
    ⟨some 13, none, .un .not (.tmp 12)⟩])
  (.cond (.tmp 13)
   (.seq (.reg [⟨some 4, none, .mv (.cst (.bool false))⟩])
   (.ret))
   (.skip)))
  (.seq (.seq (.reg [⟨some 14, none, .mv (.tmp 0)⟩,
    ⟨some 15, none, .call 11 [(.tmp 14)]⟩,
    ⟨some 16, none, .un .not (.tmp 15)⟩,
    ⟨some 17, none, .mv (.tmp 16)⟩,
    ⟨some 18, some (17, false), .idxP (.tmp 3) (.cst (.int .i64 0)) 2 1⟩,
    ⟨some 19, some (17, false), .load (.tmp 18) 1 false⟩,
    ⟨some 20, some (17, false), .mv (.tmp 0)⟩,
    ⟨some 21, some (17, false), .bin .geq .plain (.tmp 19) (.tmp 20)⟩,
    ⟨some 22, none, .pick (.tmp 17) (.cst (.bool true)) (.tmp 21)⟩,
    ⟨some 23, none, .mv (.tmp 22)⟩,
    ⟨some 24, some (23, false), .idxP (.tmp 3) (.cst (.int .i64 1)) 2 1⟩,
    ⟨some 25, some (23, false), .load (.tmp 24) 1 false⟩,
    ⟨some 26, some (23, false), .mv (.tmp 0)⟩,
    ⟨some 27, some (23, false), .bin .geq .plain (.tmp 25) (.tmp 26)⟩,
    ⟨some 28, none, .pick (.tmp 23) (.cst (.bool true)) (.tmp 27)⟩])
  (.cond (.tmp 28)
   (.seq (.reg [⟨some 4, none, .mv (.cst (.bool true))⟩])
   (.ret))
   (.skip)))
  (.seq (.reg [⟨some 29, none, .mv (.tmp 0)⟩,
    ⟨some 30, none, .call 12 [(.tmp 29)]⟩,
    ⟨some 5, none, .mv (.tmp 30)⟩])
  (.seq (.reg [⟨some 31, none, .mv (.tmp 5)⟩,
    ⟨some 32, none, .call 13 [(.tmp 31), (.cst (.int .i64 1)), (.cst (.bool false))]⟩,
    ⟨some 6, none, .mv (.tmp 32)⟩])
  (.seq (.reg [⟨some 33, none, .mv (.tmp 5)⟩,
    ⟨some 34, none, .call 13 [(.tmp 33), (.cst (.int .i64 2)), (.cst (.bool false))]⟩,
    ⟨some 7, none, .mv (.tmp 34)⟩])
  (.seq (.reg [⟨some 35, none, .mv (.tmp 5)⟩,
    ⟨some 36, none, .mv (.tmp 5)⟩,
    ⟨some 37, none, .mv (.tmp 6)⟩,
    ⟨some 38, none, .mv (.tmp 7)⟩,
    ⟨some 39, none, .call 15 [(.tmp 36), (.tmp 37), (.tmp 38)]⟩,
    ⟨some 40, none, .call 14 [(.tmp 35), (.tmp 39)]⟩])
  (.seq (.reg [⟨some 41, none, .mv (.tmp 5)⟩,
    ⟨some 42, none, .call 23 [(.tmp 41)]⟩,
    ⟨some 8, none, .allocz [(.int .u64 0), (.vec [] .full), (.vec [] .full)] false⟩,
    ⟨none, none, .store (.tmp 8) (.tmp 42) 3⟩])
  (.seq (.reg [⟨some 43, none, .bsl 0 5 true [(.int .i64 0), (.int .i64 0), (.int .i64 0), (.int .i64 0), (.int .u64 0)] []⟩,
    ⟨some 44, none, .fad (.tmp 8) 1⟩,
    ⟨some 45, none, .load (.tmp 44) 1 false⟩,
    ⟨some 46, none, .app (.tmp 43) (.tmp 45) 5 40 true false⟩,
    ⟨some 9, none, .mv (.tmp 46)⟩])
  (.seq (.reg [⟨some 47, none, .mv (.tmp 5)⟩,
    ⟨some 48, none, .mv (.tmp 5)⟩,
    ⟨some 49, none, .mv (.tmp 6)⟩,
    ⟨some 50, none, .mv (.tmp 7)⟩,
    ⟨some 51, none, .call 17 [(.tmp 48), (.tmp 49), (.tmp 50)]⟩,
    ⟨some 52, none, .call 14 [(.tmp 47), (.tmp 51)]⟩])
  (.seq (.reg [⟨some 53, none, .mv (.tmp 5)⟩,
    ⟨some 54, none, .call 23 [(.tmp 53)]⟩,
    ⟨some 10, none, .allocz [(.int .u64 0), (.vec [] .full), (.vec [] .full)] false⟩,
    ⟨none, none, .store (.tmp 10) (.tmp 54) 3⟩])
  (.seq (.seq (.reg [⟨some 55, none, .load (.tmp 8) 3 true⟩,
    ⟨some 56, none, .mv (.tmp 0)⟩,
    ⟨some 57, none, .mv (.tmp 9)⟩,
    ⟨some 58, none, .fad (.tmp 8) 2⟩,
    ⟨some 59, none, .load (.tmp 58) 1 false⟩,
    ⟨some 60, none, .bld [(.int .u64 0), (.vec [] .any), (.vec [] .any)] [(0, 1, (.tmp 56)), (1, 1, (.tmp 57)), (2, 1, (.tmp 59))]⟩,
    ⟨some 61, none, .call 25 [(.tmp 55), (.tmp 60)]⟩,
    ⟨some 62, none, .un .not (.tmp 61)⟩,
    ⟨some 63, none, .mv (.tmp 62)⟩,
    ⟨some 64, some (63, false), .fad (.tmp 8) 2⟩,
    ⟨some 65, some (63, false), .load (.tmp 64) 1 false⟩,
    ⟨some 66, some (63, false), .len .i (.tmp 65)⟩,
    ⟨some 67, some (63, false), .bin .neq .plain (.tmp 66) (.cst (.int .i64 1))⟩,
    ⟨some 68, none, .pick (.tmp 63) (.cst (.bool true)) (.tmp 67)⟩])
  (.cond (.tmp 68)
   (.seq (.reg [⟨some 4, none, .mv (.cst (.bool false))⟩])
   (.ret))
   (.skip)))
  (.seq (.reg [⟨some 69, none, .idxP (.tmp 3) (.cst (.int .i64 0)) 2 1⟩,
    ⟨some 70, none, .load (.tmp 69) 1 false⟩,
    ⟨some 71, none, .bsl 1 1 false [(.int .u64 0)] [(0, 1, (.tmp 70))]⟩,
    ⟨some 72, none, .idxP (.tmp 3) (.cst (.int .i64 1)) 2 1⟩,
    ⟨some 73, none, .load (.tmp 72) 1 false⟩,
    ⟨some 74, none, .bsl 1 1 false [(.int .u64 0)] [(0, 1, (.tmp 73))]⟩,
    ⟨some 75, none, .bsl 2 1 false [(.vec [] .any)] [(0, 1, (.tmp 71)), (1, 1, (.tmp 74))]⟩,
    ⟨some 11, none, .mv (.tmp 75)⟩])
  (.seq (.draw [(⟨some 76, none, .load (.tmp 8) 3 true⟩, 0, []),
    (⟨some 77, none, .mv (.tmp 11)⟩, 1, []),
    (⟨some 78, none, .mv (.tmp 0)⟩, 2, []),
    (⟨some 79, none, .idxP (.tmp 3) (.cst (.int .i64 0)) 2 1⟩, 3, []),
    (⟨some 80, none, .load (.tmp 79) 1 false⟩, 4, []),
    (⟨some 81, none, .idxP (.tmp 3) (.cst (.int .i64 1)) 2 1⟩, 5, []),
    (⟨some 82, none, .load (.tmp 81) 1 false⟩, 6, []),
    (⟨some 83, none, .call 20 [(.tmp 78), (.cst (.int .i64 0)), (.tmp 80), (.tmp 82), (.cst (.int .u64 0))]⟩, 7, [0]),
    (⟨some 84, none, .bsl 1 1 false [(.int .u64 0)] [(0, 1, (.tmp 83))]⟩, 8, []),
    (⟨some 85, none, .call 22 [(.tmp 76), (.tmp 77), (.tmp 84)]⟩, 9, []),
    (⟨some 86, none, .mv (.tmp 85)⟩, 10, []),
    (⟨some 87, some (86, true), .load (.tmp 10) 3 true⟩, 11, []),
    (⟨some 88, some (86, true), .mv (.tmp 11)⟩, 12, []),
    (⟨some 89, some (86, true), .mv (.tmp 0)⟩, 13, []),
    (⟨some 90, some (86, true), .idxP (.tmp 3) (.cst (.int .i64 0)) 2 1⟩, 14, []),
    (⟨some 91, some (86, true), .load (.tmp 90) 1 false⟩, 15, []),
    (⟨some 92, some (86, true), .idxP (.tmp 3) (.cst (.int .i64 1)) 2 1⟩, 16, []),
    (⟨some 93, some (86, true), .load (.tmp 92) 1 false⟩, 17, []),
    (⟨some 95, some (86, true), .mv (.tmp 0)⟩, 19, []),
    (⟨some 96, some (86, true), .idxP (.tmp 3) (.cst (.int .i64 0)) 2 1⟩, 20, []),
    (⟨some 97, some (86, true), .load (.tmp 96) 1 false⟩, 21, []),
    (⟨some 98, some (86, true), .idxP (.tmp 3) (.cst (.int .i64 1)) 2 1⟩, 22, []),
    (⟨some 99, some (86, true), .load (.tmp 98) 1 false⟩, 23, []),
    (⟨some 94, some (86, true), .call 20 [(.tmp 89), (.cst (.int .i64 0)), (.tmp 91), (.tmp 93), (.cst (.int .u64 0))]⟩, 18, [11, 20, 22]),
    (⟨some 100, some (86, true), .call 20 [(.tmp 95), (.cst (.int .i64 2)), (.tmp 97), (.tmp 99), (.cst (.int .u64 0))]⟩, 24, [11]),
    (⟨some 101, some (86, true), .bsl 2 1 false [(.int .u64 0)] [(0, 1, (.tmp 94)), (1, 1, (.tmp 100))]⟩, 25, []),
    (⟨some 102, some (86, true), .call 22 [(.tmp 87), (.tmp 88), (.tmp 101)]⟩, 26, []),
    (⟨some 103, none, .pick (.tmp 86) (.tmp 102) (.cst (.bool false))⟩, 27, []),
    (⟨some 4, none, .mv (.tmp 103)⟩, 28, [])])
  (.ret))))))))))))))⟩

theorem tr5 : trF Go.Proofs.Try.prog { obj := [], bare := [], loops := [], draws := [(16, ([0, 0, 0, 0, 8, 0, 32, 124, 252, 511, 1023, 2047, 2047, 2047, 2047, 18431, 2047, 67583, 255999, 2047, 2047, 1050623, 2047, 4196351, 16771071, 33548287, 67108863, 134217727, 268435455], [(0, []), (1, []), (2, []), (3, []), (4, []), (5, []), (6, []), (7, [0]), (8, []), (9, []), (10, []), (11, []), (12, []), (13, []), (14, []), (15, []), (16, []), (17, []), (19, []), (20, []), (21, []), (22, []), (23, []), (18, [11, 20, 22]), (24, [11]), (25, []), (26, []), (27, []), (28, [])]))], glob := [], fresh := false } Go.Proofs.Try.f5 = some ir5 := by kernel_rfl

/-- privity/privitylaw34.GadgetBooleanGates -/
def ir6 : IFn := ⟨148, [.tmp 6 false],
  .seq (.reg [⟨some 4, none, .box (.tmp 1) false⟩,
    ⟨some 5, none, .box (.tmp 2) false⟩,
    ⟨some 6, none, .mv (.cst (.bool false))⟩])
  (.seq (.seq (.reg [⟨some 13, none, .call 10 []⟩,
    ⟨some 14, none, .un .not (.tmp 13)⟩])
  (.cond (.tmp 14)
   (.seq (.reg [⟨some 6, none, .mv (.cst (.bool false))⟩])
   (.ret))
   (.skip)))
  (.seq (.seq (.reg [⟨some 15, none, .mv (.tmp 0)⟩,
    ⟨some 16, none, .call 11 [(.tmp 15)]⟩,
    ⟨some 17, none, .un .not (.tmp 16)⟩,
    ⟨some 18, none, .mv (.tmp 17)⟩,
    ⟨some 19, some (18, false), .idxP (.tmp 5) (.cst (.int .i64 0)) 2 1⟩,
    ⟨some 20, some (18, false), .load (.tmp 19) 1 false⟩,
    ⟨some 21, some (18, false), .mv (.tmp 0)⟩,
    ⟨some 22, some (18, false), .bin .geq .plain (.tmp 20) (.tmp 21)⟩,
    ⟨some 23, none, .pick (.tmp 18) (.cst (.bool true)) (.tmp 22)⟩,
    ⟨some 24, none, .mv (.tmp 23)⟩,
    ⟨some 25, some (24, false), .idxP (.tmp 5) (.cst (.int .i64 1)) 2 1⟩,
    ⟨some 26, some (24, false), .load (.tmp 25) 1 false⟩,
    ⟨some 27, some (24, false), .mv (.tmp 0)⟩,
    ⟨some 28, some (24, false), .bin .geq .plain (.tmp 26) (.tmp 27)⟩,
    ⟨some 29, none, .pick (.tmp 24) (.cst (.bool true)) (.tmp 28)⟩])
  (.cond (.tmp 29)
   (.seq (.reg [⟨some 6, none, .mv (.cst (.bool true))⟩])
   (.ret))
   (.skip)))
  (.seq (.reg [⟨some 30, none, .mv (.tmp 0)⟩,
    ⟨some 31, none, .call 12 [(.tmp 30)]⟩,
    ⟨some 7, none, .mv (.tmp 31)⟩])
  (.seq (.reg [⟨some 32, none, .mv (.tmp 7)⟩,
    ⟨some 33, none, .call 26 [(.tmp 32), (.cst (.int .i64 1)), (.cst (.int .i64 3))]⟩,
    ⟨some 8, none, .mv (.tmp 33)⟩])
  (.seq (.reg [⟨some 34, none, .mv (.tmp 7)⟩,
    ⟨some 35, none, .call 13 [(.tmp 34), (.cst (.int .i64 2)), (.cst (.bool false))]⟩,
    ⟨some 9, none, .mv (.tmp 35)⟩])
  (.seq (.reg [⟨some 36, none, .mv (.tmp 7)⟩,
    ⟨some 37, none, .call 13 [(.tmp 36), (.cst (.int .i64 2)), (.cst (.bool false))]⟩,
    ⟨some 10, none, .mv (.tmp 37)⟩])
  (.seq (.reg [⟨some 38, none, .idxP (.tmp 4) (.cst (.int .i64 0)) 3 1⟩,
    ⟨some 39, none, .load (.tmp 38) 1 false⟩,
    ⟨some 40, none, .idxP (.tmp 4) (.cst (.int .i64 1)) 3 1⟩,
    ⟨some 41, none, .load (.tmp 40) 1 false⟩,
    ⟨some 42, none, .idxP (.tmp 4) (.cst (.int .i64 2)) 3 1⟩,
    ⟨some 43, none, .load (.tmp 42) 1 false⟩,
    ⟨some 44, none, .bsl 3 1 false [(.bool false)] [(0, 1, (.tmp 39)), (1, 1, (.tmp 41)), (2, 1, (.tmp 43))]⟩,
    ⟨some 45, none, .call 27 [(.tmp 44)]⟩,
    ⟨some 11, none, .mv (.tmp 45)⟩])
  (.seq (.reg [⟨some 46, none, .mv (.tmp 7)⟩,
    ⟨some 47, none, .mv (.tmp 7)⟩,
    ⟨some 48, none, .mv (.tmp 8)⟩,
    ⟨some 49, none, .idxS (.tmp 48) (.cst (.int .i64 0)) 1⟩,
    ⟨some 50, none, .load (.tmp 49) 1 false⟩,
    ⟨some 51, none, .call 28 [(.tmp 47), (.tmp 50)]⟩,
    ⟨some 52, none, .call 14 [(.tmp 46), (.tmp 51)]⟩])
  (.seq (.draw [(⟨some 53, none, .mv (.tmp 7)⟩, 0, []),
    (⟨some 54, none, .mv (.tmp 7)⟩, 1, []),
    (⟨some 55, none, .mv (.tmp 8)⟩, 2, []),
    (⟨some 56, none, .idxS (.tmp 55) (.cst (.int .i64 0)) 1⟩, 3, []),
    (⟨some 57, none, .load (.tmp 56) 1 false⟩, 4, []),
    (⟨some 58, none, .mv (.tmp 8)⟩, 5, []),
    (⟨some 59, none, .idxS (.tmp 58) (.cst (.int .i64 1)) 1⟩, 6, []),
    (⟨some 60, none, .load (.tmp 59) 1 false⟩, 7, []),
    (⟨some 61, none, .call 29 [(.tmp 54), (.tmp 57), (.tmp 60)]⟩, 8, []),
    (⟨some 62, none, .call 14 [(.tmp 53), (.tmp 61)]⟩, 9, [])])
  (.seq (.draw [(⟨some 63, none, .mv (.tmp 7)⟩, 0, []),
    (⟨some 64, none, .mv (.tmp 7)⟩, 1, []),
    (⟨some 65, none, .mv (.tmp 8)⟩, 2, []),
    (⟨some 66, none, .idxS (.tmp 65) (.cst (.int .i64 0)) 1⟩, 3, []),
    (⟨some 67, none, .load (.tmp 66) 1 false⟩, 4, []),
    (⟨some 68, none, .mv (.tmp 8)⟩, 5, []),
    (⟨some 69, none, .idxS (.tmp 68) (.cst (.int .i64 1)) 1⟩, 6, []),
    (⟨some 70, none, .load (.tmp 69) 1 false⟩, 7, []),
    (⟨some 71, none, .call 30 [(.tmp 64), (.tmp 67), (.tmp 70)]⟩, 8, []),
    (⟨some 72, none, .call 14 [(.tmp 63), (.tmp 71)]⟩, 9, [])])
  (.seq (.draw [(⟨some 73, none, .mv (.tmp 7)⟩, 0, []),
    (⟨some 74, none, .mv (.tmp 7)⟩, 1, []),
    (⟨some 75, none, .mv (.tmp 8)⟩, 2, []),
    (⟨some 76, none, .idxS (.tmp 75) (.cst (.int .i64 0)) 1⟩, 3, []),
    (⟨some 77, none, .load (.tmp 76) 1 false⟩, 4, []),
    (⟨some 78, none, .mv (.tmp 8)⟩, 5, []),
    (⟨some 79, none, .idxS (.tmp 78) (.cst (.int .i64 1)) 1⟩, 6, []),
    (⟨some 80, none, .load (.tmp 79) 1 false⟩, 7, []),
    (⟨some 81, none, .call 31 [(.tmp 74), (.tmp 77), (.tmp 80)]⟩, 8, []),
    (⟨some 82, none, .call 14 [(.tmp 73), (.tmp 81)]⟩, 9, [])])
  (.seq (.reg [⟨some 83, none, .mv (.tmp 7)⟩,
    ⟨some 84, none, .mv (.tmp 7)⟩,
    ⟨some 85, none, .mv (.tmp 8)⟩,
    ⟨some 86, none, .idxS (.tmp 85) (.cst (.int .i64 2)) 1⟩,
    ⟨some 87, none, .load (.tmp 86) 1 false⟩,
    ⟨some 88, none, .mv (.tmp 9)⟩,
    ⟨some 89, none, .mv (.tmp 10)⟩,
    ⟨some 90, none, .call 32 [(.tmp 84), (.tmp 87), (.tmp 88), (.tmp 89)]⟩,
    ⟨some 91, none, .call 14 [(.tmp 83), (.tmp 90)]⟩])
  (.seq (.draw [(⟨some 92, none, .mv (.tmp 0)⟩, 0, []),
    (⟨some 93, none, .mv (.tmp 11)⟩, 1, []),
    (⟨some 94, none, .idxS (.tmp 93) (.cst (.int .i64 0)) 1⟩, 2, []),
    (⟨some 95, none, .load (.tmp 94) 1 false⟩, 3, []),
    (⟨some 97, none, .mv (.tmp 0)⟩, 5, []),
    (⟨some 98, none, .mv (.tmp 11)⟩, 6, []),
    (⟨some 99, none, .idxS (.tmp 98) (.cst (.int .i64 0)) 1⟩, 7, []),
    (⟨some 100, none, .load (.tmp 99) 1 false⟩, 8, []),
    (⟨some 101, none, .mv (.tmp 11)⟩, 9, []),
    (⟨some 102, none, .idxS (.tmp 101) (.cst (.int .i64 1)) 1⟩, 10, []),
    (⟨some 103, none, .load (.tmp 102) 1 false⟩, 11, []),
    (⟨some 105, none, .mv (.tmp 0)⟩, 13, []),
    (⟨some 106, none, .mv (.tmp 11)⟩, 14, []),
    (⟨some 107, none, .idxS (.tmp 106) (.cst (.int .i64 0)) 1⟩, 15, []),
    (⟨some 108, none, .load (.tmp 107) 1 false⟩, 16, []),
    (⟨some 109, none, .mv (.tmp 11)⟩, 17, []),
    (⟨some 110, none, .idxS (.tmp 109) (.cst (.int .i64 1)) 1⟩, 18, []),
    (⟨some 111, none, .load (.tmp 110) 1 false⟩, 19, []),
    (⟨some 113, none, .mv (.tmp 0)⟩, 21, []),
    (⟨some 114, none, .mv (.tmp 11)⟩, 22, []),
    (⟨some 115, none, .idxS (.tmp 114) (.cst (.int .i64 0)) 1⟩, 23, []),
    (⟨some 116, none, .load (.tmp 115) 1 false⟩, 24, []),
    (⟨some 117, none, .mv (.tmp 11)⟩, 25, []),
    (⟨some 118, none, .idxS (.tmp 117) (.cst (.int .i64 1)) 1⟩, 26, []),
    (⟨some 119, none, .load (.tmp 118) 1 false⟩, 27, []),
    (⟨some 121, none, .mv (.tmp 0)⟩, 29, []),
    (⟨some 122, none, .idxP (.tmp 5) (.cst (.int .i64 0)) 2 1⟩, 30, []),
    (⟨some 123, none, .load (.tmp 122) 1 false⟩, 31, []),
    (⟨some 124, none, .idxP (.tmp 5) (.cst (.int .i64 1)) 2 1⟩, 32, []),
    (⟨some 125, none, .load (.tmp 124) 1 false⟩, 33, []),
    (⟨some 126, none, .mv (.tmp 11)⟩, 34, []),
    (⟨some 127, none, .idxS (.tmp 126) (.cst (.int .i64 2)) 1⟩, 35, []),
    (⟨some 128, none, .load (.tmp 127) 1 false⟩, 36, []),
    (⟨some 96, none, .call 20 [(.tmp 92), (.cst (.int .i64 3)), (.tmp 95), (.cst (.int .u64 0)), (.cst (.int .u64 0))]⟩, 4, [7, 10, 14, 17, 21, 24, 27, 29, 32]),
    (⟨some 104, none, .call 20 [(.tmp 97), (.cst (.int .i64 4)), (.tmp 100), (.tmp 103), (.cst (.int .u64 0))]⟩, 12, [14, 17, 21, 24, 27, 29, 32]),
    (⟨some 112, none, .call 20 [(.tmp 105), (.cst (.int .i64 5)), (.tmp 108), (.tmp 111), (.cst (.int .u64 0))]⟩, 20, [21, 24, 27, 29, 32]),
    (⟨some 120, none, .call 20 [(.tmp 113), (.cst (.int .i64 6)), (.tmp 116), (.tmp 119), (.cst (.int .u64 0))]⟩, 28, [27, 29, 32]),
    (⟨some 129, none, .call 20 [(.tmp 121), (.cst (.int .i64 7)), (.tmp 123), (.tmp 125), (.tmp 128)]⟩, 37, []),
    (⟨some 130, none, .bsl 5 1 false [(.int .u64 0)] [(0, 1, (.tmp 96)), (1, 1, (.tmp 104)), (2, 1, (.tmp 112)), (3, 1, (.tmp 120)), (4, 1, (.tmp 129))]⟩, 38, []),
    (⟨some 12, none, .mv (.tmp 130)⟩, 39, [])])
  (.seq (.draw [(⟨some 131, none, .mv (.tmp 7)⟩, 0, []),
    (⟨some 133, none, .mv (.tmp 11)⟩, 2, []),
    (⟨some 134, none, .idxP (.tmp 5) (.cst (.int .i64 0)) 2 1⟩, 3, []),
    (⟨some 135, none, .load (.tmp 134) 1 false⟩, 4, []),
    (⟨some 136, none, .idxP (.tmp 5) (.cst (.int .i64 1)) 2 1⟩, 5, []),
    (⟨some 137, none, .load (.tmp 136) 1 false⟩, 6, []),
    (⟨some 138, none, .bsl 2 1 false [(.int .u64 0)] [(0, 1, (.tmp 135)), (1, 1, (.tmp 137))]⟩, 7, []),
    (⟨some 139, none, .bsl 2 1 false [(.vec [] .any)] [(0, 1, (.tmp 133)), (1, 1, (.tmp 138))]⟩, 8, []),
    (⟨some 140, none, .mv (.tmp 12)⟩, 9, []),
    (⟨some 132, none, .call 23 [(.tmp 131)]⟩, 1, [3, 5]),
    (⟨some 141, none, .call 22 [(.tmp 132), (.tmp 139), (.tmp 140)]⟩, 10, []),
    (⟨some 142, none, .mv (.tmp 141)⟩, 11, []),
    (⟨some 143, some (142, true), .mv (.tmp 7)⟩, 12, []),
    (⟨some 144, some (142, true), .call 23 [(.tmp 143)]⟩, 13, []),
    (⟨some 145, some (142, true), .call 33 [(.tmp 144)]⟩, 14, []),
    (⟨some 146, some (142, true), .bin .leq .plain (.tmp 145) (.cst (.int .i64 4))⟩, 15, []),
    (⟨some 147, none, .pick (.tmp 142) (.tmp 146) (.cst (.bool false))⟩, 16, []),
    (⟨some 6, none, .mv (.tmp 147)⟩, 17, [])])
  (.ret)))))))))))))))⟩

theorem tr6 : trF Go.Proofs.Try.prog { obj := [], bare := [], loops := [], draws := [(11, ([0, 0, 0, 4, 12, 0, 32, 96, 254, 511], [(0, []), (1, []), (2, []), (3, []), (4, []), (5, []), (6, []), (7, []), (8, []), (9, [])])), (12, ([0, 0, 0, 4, 12, 0, 32, 96, 254, 511], [(0, []), (1, []), (2, []), (3, []), (4, []), (5, []), (6, []), (7, []), (8, []), (9, [])])), (13, ([0, 0, 0, 4, 12, 0, 32, 96, 254, 511], [(0, []), (1, []), (2, []), (3, []), (4, []), (5, []), (6, []), (7, []), (8, []), (9, [])])), (15, ([0, 0, 2, 6, 15, 0, 0, 64, 192, 0, 512, 1536, 4095, 0, 0, 16384, 49152, 0, 131072, 393216, 1048575, 0, 0, 4194304, 12582912, 0, 33554432, 100663296, 268435455, 0, 0, 1073741824, 0, 4294967296, 0, 17179869184, 51539607552, 137438953471, 274877906943, 549755813887], [(0, []), (1, []), (2, []), (3, []), (5, []), (6, []), (7, []), (8, []), (9, []), (10, []), (11, []), (13, []), (14, []), (15, []), (16, []), (17, []), (18, []), (19, []), (21, []), (22, []), (23, []), (24, []), (25, []), (26, []), (27, []), (29, []), (30, []), (31, []), (32, []), (33, []), (34, []), (35, []), (36, []), (4, [7, 10, 14, 17, 21, 24, 27, 29, 32]), (12, [14, 17, 21, 24, 27, 29, 32]), (20, [21, 24, 27, 29, 32]), (28, [27, 29, 32]), (37, []), (38, []), (39, [])])), (16, ([0, 1, 0, 0, 8, 0, 32, 120, 252, 0, 1023, 2047, 4095, 8191, 16383, 32767, 65535, 131071], [(0, []), (2, []), (3, []), (4, []), (5, []), (6, []), (7, []), (8, []), (9, []), (1, [3, 5]), (10, []), (11, []), (12, []), (13, []), (14, []), (15, []), (16, []), (17, [])]))], glob := [], fresh := false } Go.Proofs.Try.f6 = some ir6 := by kernel_rfl

/-- privity/privitylaw34.GadgetComparisons -/
def ir7 : IFn := ⟨74, [.tmp 6 false],
  .seq (.reg [⟨some 6, none, .mv (.cst (.bool false))⟩])
  (.seq (.seq (.reg [⟨some 12, none, .call 10 []⟩,
    ⟨some 13, none, .un .not (.tmp 12)⟩])
  (.cond (.tmp 13)
   (.seq (.reg [⟨some 6, none, .mv (.cst (.bool false))⟩])
   (.ret))
   (.skip)))
  (.seq (.seq (.reg [⟨some 14, none, .mv (.tmp 0)⟩,
    ⟨some 15, none, .call 11 [(.tmp 14)]⟩,
    ⟨some 16, none, .un .not (.tmp 15)⟩,
    ⟨some 17, none, .mv (.tmp 16)⟩,
    ⟨some 18, some (17, false), .mv (.tmp 1)⟩,
    ⟨some 19, some (17, false), .len .i (.tmp 18)⟩,
    ⟨some 20, some (17, false), .bin .gtr .plain (.tmp 19) (.cst (.int .i64 12))⟩,
    ⟨some 21, none, .pick (.tmp 17) (.cst (.bool true)) (.tmp 20)⟩,
    ⟨some 22, none, .mv (.tmp 21)⟩,
    ⟨some 23, some (22, false), .mv (.tmp 2)⟩,
    ⟨some 24, some (22, false), .len .i (.tmp 23)⟩,
    ⟨some 25, some (22, false), .bin .gtr .plain (.tmp 24) (.cst (.int .i64 12))⟩,
    ⟨some 26, none, .pick (.tmp 22) (.cst (.bool true)) (.tmp 25)⟩])
  (.cond (.tmp 26)
   (.seq (.reg [⟨some 6, none, .mv (.cst (.bool true))⟩])
   (.ret))
   (.skip)))
  (.seq (.reg [⟨some 27, none, .mv (.tmp 1)⟩,
    ⟨some 28, none, .call 27 [(.tmp 27)]⟩,
    ⟨some 7, none, .mv (.tmp 28)⟩])
  (.seq (.reg [⟨some 29, none, .mv (.tmp 2)⟩,
    ⟨some 30, none, .call 27 [(.tmp 29)]⟩,
    ⟨some 8, none, .mv (.tmp 30)⟩])
  (.seq (.reg [⟨some 31, none, .mv (.tmp 0)⟩,
    ⟨some 32, none, .call 12 [(.tmp 31)]⟩,
    ⟨some 9, none, .mv (.tmp 32)⟩])
  (.seq (.reg [⟨some 33, none, .mv (.tmp 9)⟩,
    ⟨some 34, none, .mv (.tmp 1)⟩,
    ⟨some 35, none, .len .i (.tmp 34)⟩,
    ⟨some 36, none, .call 26 [(.tmp 33), (.cst (.int .i64 1)), (.tmp 35)]⟩,
    ⟨some 10, none, .mv (.tmp 36)⟩])
  (.seq (.reg [⟨some 37, none, .mv (.tmp 9)⟩,
    ⟨some 38, none, .mv (.tmp 2)⟩,
    ⟨some 39, none, .len .i (.tmp 38)⟩,
    ⟨some 40, none, .call 26 [(.tmp 37), (.cst (.int .i64 2)), (.tmp 39)]⟩,
    ⟨some 11, none, .mv (.tmp 40)⟩])
  (.seq (.reg [⟨some 41, none, .mv (.tmp 9)⟩,
    ⟨some 42, none, .mv (.tmp 9)⟩,
    ⟨some 43, none, .mv (.tmp 10)⟩,
    ⟨some 44, none, .mv (.tmp 11)⟩,
    ⟨some 45, none, .call 34 [(.tmp 42), (.tmp 43), (.tmp 44)]⟩,
    ⟨some 46, none, .call 14 [(.tmp 41), (.tmp 45)]⟩])
  (.seq (.reg [⟨some 47, none, .mv (.tmp 9)⟩,
    ⟨some 48, none, .mv (.tmp 9)⟩,
    ⟨some 49, none, .mv (.tmp 10)⟩,
    ⟨some 50, none, .mv (.tmp 11)⟩,
    ⟨some 51, none, .call 35 [(.tmp 48), (.tmp 49), (.tmp 50)]⟩,
    ⟨some 52, none, .call 14 [(.tmp 47), (.tmp 51)]⟩])
  (.seq (.reg [⟨some 53, none, .mv (.tmp 9)⟩,
    ⟨some 54, none, .mv (.tmp 9)⟩,
    ⟨some 55, none, .mv (.tmp 10)⟩,
    ⟨some 56, none, .call 36 [(.tmp 54), (.tmp 55)]⟩,
    ⟨some 57, none, .call 14 [(.tmp 53), (.tmp 56)]⟩])
  (.seq (.reg [⟨some 58, none, .mv (.tmp 9)⟩,
    ⟨some 59, none, .call 23 [(.tmp 58)]⟩,
    ⟨some 60, none, .mv (.tmp 7)⟩,
    ⟨some 61, none, .mv (.tmp 8)⟩,
    ⟨some 62, none, .bsl 2 1 false [(.vec [] .any)] [(0, 1, (.tmp 60)), (1, 1, (.tmp 61))]⟩,
    ⟨some 63, none, .mv (.tmp 7)⟩,
    ⟨some 64, none, .mv (.tmp 8)⟩,
    ⟨some 65, none, .call 37 [(.tmp 63), (.tmp 64)]⟩,
    ⟨some 66, none, .mv (.tmp 7)⟩,
    ⟨some 67, none, .mv (.tmp 8)⟩,
    ⟨some 68, none, .call 38 [(.tmp 66), (.tmp 67)]⟩,
    ⟨some 69, none, .mv (.tmp 0)⟩,
    ⟨some 70, none, .mv (.tmp 7)⟩,
    ⟨some 71, none, .call 39 [(.tmp 69), (.tmp 70)]⟩,
    ⟨some 72, none, .bsl 3 1 false [(.int .u64 0)] [(0, 1, (.tmp 65)), (1, 1, (.tmp 68)), (2, 1, (.tmp 71))]⟩,
    ⟨some 73, none, .call 22 [(.tmp 59), (.tmp 62), (.tmp 72)]⟩,
    ⟨some 6, none, .mv (.tmp 73)⟩])
  (.ret))))))))))))⟩

theorem tr7 : trF Go.Proofs.Try.prog { obj := [], bare := [], loops := [], draws := [], glob := [], fresh := false } Go.Proofs.Try.f7 = some ir7 := by kernel_rfl

/-- privity/privitylaw34.GadgetBitArithmetic -/
def ir8 : IFn := ⟨88, [.tmp 6 false],
  .seq (.reg [⟨some 6, none, .mv (.cst (.bool false))⟩])
  (.seq (.seq (.reg [⟨some 15, none, .call 10 []⟩,
    ⟨some 16, none, .un .not (.tmp 15)⟩])
  (.cond (.tmp 16)
   (.seq (.reg [⟨some 6, none, .mv (.cst (.bool false))⟩])
   (.ret))
   (.skip)))
  (.seq (.seq (.reg [⟨some 17, none, .mv (.tmp 0)⟩,
    ⟨some 18, none, .call 11 [(.tmp 17)]⟩,
    ⟨some 19, none, .un .not (.tmp 18)⟩,
    ⟨some 20, none, .mv (.tmp 19)⟩,
    ⟨some 21, some (20, false), .mv (.tmp 1)⟩,
    ⟨some 22, some (20, false), .len .i (.tmp 21)⟩,
    ⟨some 23, some (20, false), .bin .gtr .plain (.tmp 22) (.cst (.int .i64 10))⟩,
    ⟨some 24, none, .pick (.tmp 20) (.cst (.bool true)) (.tmp 23)⟩,
    ⟨some 25, none, .mv (.tmp 24)⟩,
    ⟨some 26, some (25, false), .mv (.tmp 2)⟩,
    ⟨some 27, some (25, false), .len .i (.tmp 26)⟩,
    ⟨some 28, some (25, false), .bin .gtr .plain (.tmp 27) (.cst (.int .i64 10))⟩,
    ⟨some 29, none, .pick (.tmp 25) (.cst (.bool true)) (.tmp 28)⟩])
  (.cond (.tmp 29)
   (.seq (.reg [⟨some 6, none, .mv (.cst (.bool true))⟩])
   (.ret))
   (.skip)))
  (.seq (.reg [⟨some 30, none, .mv (.tmp 1)⟩,
    ⟨some 31, none, .call 27 [(.tmp 30)]⟩,
    ⟨some 7, none, .mv (.tmp 31)⟩])
  (.seq (.reg [⟨some 32, none, .mv (.tmp 2)⟩,
    ⟨some 33, none, .call 27 [(.tmp 32)]⟩,
    ⟨some 8, none, .mv (.tmp 33)⟩])
  (.seq (.seq (.reg [⟨some 9, none, .mv (.cst (.int .i64 0))⟩])
  (.block 0
   (.loop [0, 1, 2, 7, 8, 9]
    (.seq (.seq (.reg [⟨some 34, none, .mv (.tmp 9)⟩,
      ⟨some 35, none, .bin .lss .plain (.tmp 34) (.cst (.int .i64 3))⟩])
    (.cond (.tmp 35)
     (.skip)
     (.brk 0)))
    (.seq (.block 1
     (.seq (.reg [⟨some 38, none, .mv (.tmp 0)⟩,
       ⟨some 39, none, .call 12 [(.tmp 38)]⟩,
       ⟨some 10, none, .mv (.tmp 39)⟩])
     (.seq (.reg [⟨some 40, none, .mv (.tmp 10)⟩,
       ⟨some 41, none, .mv (.tmp 1)⟩,
       ⟨some 42, none, .len .i (.tmp 41)⟩,
       ⟨some 43, none, .call 26 [(.tmp 40), (.cst (.int .i64 1)), (.tmp 42)]⟩,
       ⟨some 11, none, .mv (.tmp 43)⟩])
     (.seq (.reg [⟨some 44, none, .mv (.tmp 10)⟩,
       ⟨some 45, none, .mv (.tmp 2)⟩,
       ⟨some 46, none, .len .i (.tmp 45)⟩,
       ⟨some 47, none, .call 26 [(.tmp 44), (.cst (.int .i64 2)), (.tmp 46)]⟩,
       ⟨some 12, none, .mv (.tmp 47)⟩])
     (.seq (.reg [⟨some 13, none, .mv (.cst (.vec [] .full))⟩])
     (.seq (.seq (.reg [⟨some 48, none, .mv (.tmp 9)⟩])
     (.block 2
      (.seq (.reg [⟨some 54, none, .bin .eql .plain (.tmp 48) (.cst (.int .i64 0))⟩,
        ⟨some 53, none, .mv (.tmp 54)⟩])
      (.cond (.tmp 53)
       (.reg [⟨some 55, none, .mv (.tmp 10)⟩,
         ⟨some 56, none, .mv (.tmp 11)⟩,
         ⟨some 57, none, .mv (.tmp 12)⟩,
         ⟨some 58, none, .call 40 [(.tmp 55), (.tmp 56), (.tmp 57)]⟩,
         ⟨some 13, none, .mv (.tmp 58)⟩])
       (.seq (.reg [⟨some 60, none, .bin .eql .plain (.tmp 48) (.cst (.int .i64 1))⟩,
         ⟨some 59, none, .mv (.tmp 60)⟩])
       (.cond (.tmp 59)
        (.reg [⟨some 61, none, .mv (.tmp 10)⟩,
          ⟨some 62, none, .mv (.tmp 11)⟩,
          ⟨some 63, none, .mv (.tmp 12)⟩,
          ⟨some 64, none, .call 41 [(.tmp 61), (.tmp 62), (.tmp 63)]⟩,
          ⟨some 13, none, .mv (.tmp 64)⟩])
        (.reg [⟨some 49, none, .mv (.tmp 10)⟩,
          ⟨some 50, none, .mv (.tmp 11)⟩,
          ⟨some 51, none, .mv (.tmp 12)⟩,
          ⟨some 52, none, .call 42 [(.tmp 49), (.tmp 50), (.tmp 51)]⟩,
          ⟨some 13, none, .mv (.tmp 52)⟩])))))))
     (.seq (.seq (.reg [⟨some 14, none, .mv (.cst (.int .i64 0))⟩])
     (.block 3
      (.loop [0, 1, 2, 7, 8, 9, 10, 13, 14]
       (.seq (.seq (.reg [⟨some 65, none, .mv (.tmp 14)⟩,
         ⟨some 66, none, .mv (.tmp 13)⟩,
         ⟨some 67, none, .len .i (.tmp 66)⟩,
         ⟨some 68, none, .bin .lss .plain (.tmp 65) (.tmp 67)⟩])
       (.cond (.tmp 68)
        (.skip)
        (.brk 3)))
       (.seq (.block 4
        (.reg [⟨some 71, none, .mv (.tmp 10)⟩,
          ⟨some 72, none, .mv (.tmp 13)⟩,
          ⟨some 73, none, .mv (.tmp 14)⟩,
          ⟨some 74, none, .idxS (.tmp 72) (.tmp 73) 1⟩,
          ⟨some 75, none, .load (.tmp 74) 1 false⟩,
          ⟨some 76, none, .call 14 [(.tmp 71), (.tmp 75)]⟩]))
       (.reg [⟨some 69, none, .mv (.tmp 14)⟩,
         ⟨some 70, none, .bin .add .plain (.tmp 69) (.cst (.int .i64 1))⟩,
         ⟨some 14, none, .mv (.tmp 70)⟩]))))))
     (.seq (.reg [⟨some 77, none, .mv (.tmp 10)⟩,
       ⟨some 78, none, .call 23 [(.tmp 77)]⟩,
       ⟨some 79, none, .mv (.tmp 7)⟩,
       ⟨some 80, none, .mv (.tmp 8)⟩,
       ⟨some 81, none, .bsl 2 1 false [(.vec [] .any)] [(0, 1, (.tmp 79)), (1, 1, (.tmp 80))]⟩,
       ⟨some 82, none, .mv (.tmp 9)⟩,
       ⟨some 83, none, .mv (.tmp 7)⟩,
       ⟨some 84, none, .mv (.tmp 8)⟩,
       ⟨some 85, none, .call 43 [(.tmp 82), (.tmp 83), (.tmp 84)]⟩,
       ⟨some 86, none, .call 22 [(.tmp 78), (.tmp 81), (.tmp 85)]⟩,
       ⟨some 87, none, .un .not (.tmp 86)⟩])
     (.cond (.tmp 87)
      (.seq (.reg [⟨some 6, none, .mv (.cst (.bool false))⟩])
      (.ret))
      (.skip))))))))))
    (.reg [⟨some 36, none, .mv (.tmp 9)⟩,
      ⟨some 37, none, .bin .add .plain (.tmp 36) (.cst (.int .i64 1))⟩,
      ⟨some 9, none, .mv (.tmp 37)⟩]))))))
  (.seq (.reg [⟨some 6, none, .mv (.cst (.bool true))⟩])
  (.ret)))))))⟩

theorem tr8 : trF Go.Proofs.Try.prog { obj := [], bare := [], loops := [[0, 1, 2, 7, 8, 9], [0, 1, 2, 7, 8, 9, 10, 13, 14]], draws := [], glob := [], fresh := false } Go.Proofs.Try.f8 = some ir8 := by kernel_rfl

/-- privity/privitylaw34.GadgetGateCounts -/
def ir9 : IFn := ⟨112, [.tmp 6 false],
  .seq (.reg [⟨some 6, none, .mv (.cst (.bool false))⟩])
  (.seq (.seq (.reg [⟨some 11, none, .call 10 []⟩,
    ⟨some 12, none, .un .not (.tmp 11)⟩])
  (.cond (.tmp 12)
   (.seq (.reg [⟨some 6, none, .mv (.cst (.bool false))⟩])
   (.ret))
   (.skip)))
  (.seq (.seq (.reg [⟨some 13, none, .mv (.tmp 0)⟩,
    ⟨some 14, none, .call 11 [(.tmp 13)]⟩,
    ⟨some 15, none, .un .not (.tmp 14)⟩,
    ⟨some 16, none, .mv (.tmp 15)⟩,
    ⟨some 17, some (16, false), .mv (.tmp 1)⟩,
    ⟨some 18, some (16, false), .bin .gtr .plain (.tmp 17) (.cst (.int .u8 16))⟩,
    ⟨some 19, none, .pick (.tmp 16) (.cst (.bool true)) (.tmp 18)⟩,
    ⟨some 20, none, .mv (.tmp 19)⟩,
    ⟨some 21, some (20, false), .mv (.tmp 2)⟩,
    ⟨some 22, some (20, false), .bin .gtr .plain (.tmp 21) (.cst (.int .u8 16))⟩,
    ⟨some 23, none, .pick (.tmp 20) (.cst (.bool true)) (.tmp 22)⟩])
  (.cond (.tmp 23)
   (.seq (.reg [⟨some 6, none, .mv (.cst (.bool true))⟩])
   (.ret))
   (.skip)))
  (.seq (.reg [⟨some 24, none, .mv (.tmp 1)⟩,
    ⟨some 25, none, .cvI .i64 (.tmp 24)⟩,
    ⟨some 7, none, .mv (.tmp 25)⟩])
  (.seq (.reg [⟨some 26, none, .mv (.tmp 2)⟩,
    ⟨some 27, none, .cvI .i64 (.tmp 26)⟩,
    ⟨some 8, none, .mv (.tmp 27)⟩])
  (.seq (.reg [⟨some 28, none, .mv (.tmp 7)⟩,
    ⟨some 29, none, .mv (.tmp 8)⟩,
    ⟨some 30, none, .call 44 [(.tmp 28), (.tmp 29)]⟩,
    ⟨some 9, none, .mv (.tmp 30)⟩])
  (.seq (.reg [⟨some 31, none, .mv (.tmp 7)⟩,
    ⟨some 32, none, .mv (.tmp 8)⟩,
    ⟨some 33, none, .bld [(.int .i64 0), (.int .i64 0)] [(0, 1, (.tmp 31)), (1, 1, (.tmp 32))]⟩,
    ⟨some 10, none, .allocz [(.int .i64 0), (.int .i64 0)] false⟩,
    ⟨none, none, .store (.tmp 10) (.tmp 33) 2⟩])
  (.seq (.reg [⟨some 34, none, .mv (.tmp 0)⟩,
    ⟨some 35, none, .call 45 [(.tmp 34)]⟩,
    ⟨some 36, none, .mv (.tmp 35)⟩,
    ⟨some 37, some (36, true), .mv (.tmp 0)⟩,
    ⟨some 38, some (36, true), .load (.tmp 10) 2 true⟩,
    ⟨some 39, some (36, true), .mv (.tmp 9)⟩,
    ⟨some 40, some (36, true), .bin .mul .plain (.cst (.int .i64 2)) (.tmp 39)⟩,
    ⟨some 41, some (36, true), .mv (.tmp 9)⟩,
    ⟨some 42, some (36, true), .bin .mul .plain (.cst (.int .i64 10)) (.tmp 41)⟩,
    ⟨some 43, some (36, true), .bin .add .plain (.tmp 42) (.cst (.int .i64 2))⟩,
    ⟨some 44, some (36, true), .call 46 [(.tmp 37), (.cst (.int .i64 0)), (.tmp 38), (.tmp 40), (.tmp 43)]⟩,
    ⟨some 45, none, .pick (.tmp 36) (.tmp 44) (.cst (.bool false))⟩,
    ⟨some 46, none, .mv (.tmp 45)⟩,
    ⟨some 47, some (46, true), .mv (.tmp 0)⟩,
    ⟨some 48, some (46, true), .load (.tmp 10) 2 true⟩,
    ⟨some 49, some (46, true), .mv (.tmp 9)⟩,
    ⟨some 50, some (46, true), .bin .mul .plain (.cst (.int .i64 3)) (.tmp 49)⟩,
    ⟨some 51, some (46, true), .mv (.tmp 7)⟩,
    ⟨some 52, some (46, true), .bin .add .plain (.tmp 50) (.tmp 51)⟩,
    ⟨some 53, some (46, true), .mv (.tmp 9)⟩,
    ⟨some 54, some (46, true), .bin .mul .plain (.cst (.int .i64 12)) (.tmp 53)⟩,
    ⟨some 55, some (46, true), .mv (.tmp 7)⟩,
    ⟨some 56, some (46, true), .bin .add .plain (.tmp 54) (.tmp 55)⟩,
    ⟨some 57, some (46, true), .bin .add .plain (.tmp 56) (.cst (.int .i64 4))⟩,
    ⟨some 58, some (46, true), .call 46 [(.tmp 47), (.cst (.int .i64 1)), (.tmp 48), (.tmp 52), (.tmp 57)]⟩,
    ⟨some 59, none, .pick (.tmp 46) (.tmp 58) (.cst (.bool false))⟩,
    ⟨some 60, none, .mv (.tmp 59)⟩,
    ⟨some 61, some (60, true), .mv (.tmp 0)⟩,
    ⟨some 62, some (60, true), .load (.tmp 10) 2 true⟩,
    ⟨some 63, some (60, true), .mv (.tmp 7)⟩,
    ⟨some 64, some (60, true), .bin .mul .plain (.cst (.int .i64 3)) (.tmp 63)⟩,
    ⟨some 65, some (60, true), .mv (.tmp 8)⟩,
    ⟨some 66, some (60, true), .bin .mul .plain (.tmp 64) (.tmp 65)⟩,
    ⟨some 67, some (60, true), .mv (.tmp 7)⟩,
    ⟨some 68, some (60, true), .mv (.tmp 8)⟩,
    ⟨some 69, some (60, true), .bin .add .plain (.tmp 67) (.tmp 68)⟩,
    ⟨some 70, some (60, true), .bin .mul .plain (.cst (.int .i64 3)) (.tmp 69)⟩,
    ⟨some 71, some (60, true), .bin .add .plain (.tmp 66) (.tmp 70)⟩,
    ⟨some 72, some (60, true), .mv (.tmp 7)⟩,
    ⟨some 73, some (60, true), .bin .mul .plain (.cst (.int .i64 10)) (.tmp 72)⟩,
    ⟨some 74, some (60, true), .mv (.tmp 8)⟩,
    ⟨some 75, some (60, true), .bin .mul .plain (.tmp 73) (.tmp 74)⟩,
    ⟨some 76, some (60, true), .mv (.tmp 7)⟩,
    ⟨some 77, some (60, true), .mv (.tmp 8)⟩,
    ⟨some 78, some (60, true), .bin .add .plain (.tmp 76) (.tmp 77)⟩,
    ⟨some 79, some (60, true), .bin .mul .plain (.cst (.int .i64 2)) (.tmp 78)⟩,
    ⟨some 80, some (60, true), .bin .add .plain (.tmp 75) (.tmp 79)⟩,
    ⟨some 81, some (60, true), .bin .add .plain (.tmp 80) (.cst (.int .i64 2))⟩,
    ⟨some 82, some (60, true), .call 46 [(.tmp 61), (.cst (.int .i64 2)), (.tmp 62), (.tmp 71), (.tmp 81)]⟩,
    ⟨some 83, none, .pick (.tmp 60) (.tmp 82) (.cst (.bool false))⟩,
    ⟨some 84, none, .mv (.tmp 83)⟩,
    ⟨some 85, some (84, true), .mv (.tmp 0)⟩,
    ⟨some 86, some (84, true), .load (.tmp 10) 2 true⟩,
    ⟨some 87, some (84, true), .mv (.tmp 9)⟩,
    ⟨some 88, some (84, true), .bin .mul .plain (.cst (.int .i64 3)) (.tmp 87)⟩,
    ⟨some 89, some (84, true), .mv (.tmp 9)⟩,
    ⟨some 90, some (84, true), .bin .mul .plain (.cst (.int .i64 12)) (.tmp 89)⟩,
    ⟨some 91, some (84, true), .bin .add .plain (.tmp 90) (.cst (.int .i64 4))⟩,
    ⟨some 92, some (84, true), .call 46 [(.tmp 85), (.cst (.int .i64 3)), (.tmp 86), (.tmp 88), (.tmp 91)]⟩,
    ⟨some 93, none, .pick (.tmp 84) (.tmp 92) (.cst (.bool false))⟩,
    ⟨some 94, none, .mv (.tmp 93)⟩,
    ⟨some 95, some (94, true), .mv (.tmp 0)⟩,
    ⟨some 96, some (94, true), .load (.tmp 10) 2 true⟩,
    ⟨some 97, some (94, true), .mv (.tmp 9)⟩,
    ⟨some 98, some (94, true), .bin .mul .plain (.cst (.int .i64 2)) (.tmp 97)⟩,
    ⟨some 99, some (94, true), .mv (.tmp 9)⟩,
    ⟨some 100, some (94, true), .bin .mul .plain (.cst (.int .i64 8)) (.tmp 99)⟩,
    ⟨some 101, some (94, true), .bin .add .plain (.tmp 100) (.cst (.int .i64 2))⟩,
    ⟨some 102, some (94, true), .call 46 [(.tmp 95), (.cst (.int .i64 4)), (.tmp 96), (.tmp 98), (.tmp 101)]⟩,
    ⟨some 103, none, .pick (.tmp 94) (.tmp 102) (.cst (.bool false))⟩,
    ⟨some 104, none, .mv (.tmp 103)⟩,
    ⟨some 105, some (104, true), .mv (.tmp 0)⟩,
    ⟨some 106, some (104, true), .load (.tmp 10) 2 true⟩,
    ⟨some 107, some (104, true), .mv (.tmp 7)⟩,
    ⟨some 108, some (104, true), .bin .mul .plain (.cst (.int .i64 2)) (.tmp 107)⟩,
    ⟨some 109, some (104, true), .bin .add .plain (.tmp 108) (.cst (.int .i64 1))⟩,
    ⟨some 110, some (104, true), .call 46 [(.tmp 105), (.cst (.int .i64 5)), (.tmp 106), (.cst (.int .i64 0)), (.tmp 109)]⟩,
    ⟨some 111, none, .pick (.tmp 104) (.tmp 110) (.cst (.bool false))⟩,
    ⟨some 6, none, .mv (.tmp 111)⟩])
  (.ret))))))))⟩

theorem tr9 : trF Go.Proofs.Try.prog { obj := [], bare := [], loops := [], draws := [], glob := [], fresh := false } Go.Proofs.Try.f9 = some ir9 := by kernel_rfl

/-- privity/privitylaw34.awake -/
def ir10 : IFn := ⟨55, [.tmp 0 false],
  .seq (.reg [⟨some 0, none, .mv (.cst (.bool false))⟩])
  (.seq (.reg [⟨some 7, none, .call 12 [(.cst (.int .u64 31))]⟩,
    ⟨some 1, none, .mv (.tmp 7)⟩])
  (.seq (.reg [⟨some 8, none, .mv (.tmp 1)⟩,
    ⟨some 9, none, .call 13 [(.tmp 8), (.cst (.int .i64 1)), (.cst (.bool true))]⟩,
    ⟨some 10, none, .mv (.tmp 1)⟩,
    ⟨some 11, none, .call 13 [(.tmp 10), (.cst (.int .i64 2)), (.cst (.bool true))]⟩,
    ⟨some 12, none, .mv (.tmp 1)⟩,
    ⟨some 13, none, .call 13 [(.tmp 12), (.cst (.int .i64 1)), (.cst (.bool false))]⟩,
    ⟨some 2, none, .mv (.tmp 9)⟩,
    ⟨some 3, none, .mv (.tmp 11)⟩,
    ⟨some 4, none, .mv (.tmp 13)⟩])
  (.seq (.reg [⟨some 14, none, .mv (.tmp 1)⟩,
    ⟨some 15, none, .mv (.tmp 1)⟩,
    ⟨some 16, none, .mv (.tmp 2)⟩,
    ⟨some 17, none, .mv (.tmp 3)⟩,
    ⟨some 18, none, .call 30 [(.tmp 15), (.tmp 16), (.tmp 17)]⟩,
    ⟨some 19, none, .call 14 [(.tmp 14), (.tmp 18)]⟩])
  (.seq (.reg [⟨some 20, none, .mv (.tmp 1)⟩,
    ⟨some 21, none, .mv (.tmp 1)⟩,
    ⟨some 22, none, .mv (.tmp 2)⟩,
    ⟨some 23, none, .mv (.tmp 3)⟩,
    ⟨some 24, none, .call 31 [(.tmp 21), (.tmp 22), (.tmp 23)]⟩,
    ⟨some 25, none, .call 14 [(.tmp 20), (.tmp 24)]⟩])
  (.seq (.reg [⟨some 26, none, .mv (.tmp 1)⟩,
    ⟨some 27, none, .mv (.tmp 1)⟩,
    ⟨some 28, none, .mv (.tmp 4)⟩,
    ⟨some 29, none, .call 18 [(.tmp 27), (.cst (.int .u64 3)), (.tmp 28)]⟩,
    ⟨some 30, none, .call 14 [(.tmp 26), (.tmp 29)]⟩])
  (.seq (.reg [⟨some 31, none, .mv (.tmp 1)⟩,
    ⟨some 32, none, .mv (.tmp 1)⟩,
    ⟨some 33, none, .mv (.tmp 2)⟩,
    ⟨some 34, none, .mv (.tmp 3)⟩,
    ⟨some 35, none, .mv (.tmp 3)⟩,
    ⟨some 36, none, .bsl 3 1 false [(.int .i64 0)] [(0, 1, (.tmp 33)), (1, 1, (.tmp 34)), (2, 1, (.tmp 35))]⟩,
    ⟨some 37, none, .call 36 [(.tmp 32), (.tmp 36)]⟩,
    ⟨some 38, none, .call 14 [(.tmp 31), (.tmp 37)]⟩])
  (.seq (.reg [⟨some 40, none, .mv (.tmp 1)⟩,
    ⟨some 41, none, .call 23 [(.tmp 40)]⟩,
    ⟨some 42, none, .bsl 2 1 false [(.int .u64 0)] [(0, 1, (.cst (.int .u64 1))), (1, 1, (.cst (.int .u64 5)))]⟩,
    ⟨some 43, none, .bsl 1 1 false [(.int .u64 0)] [(0, 1, (.cst (.int .u64 1)))]⟩,
    ⟨some 44, none, .bsl 2 1 false [(.vec [] .any)] [(0, 1, (.tmp 42)), (1, 1, (.tmp 43))]⟩,
    ⟨some 45, none, .call 47 [(.tmp 41), (.tmp 44)]⟩,
    ⟨some 39, none, .mv (.tmp 45)⟩,
    ⟨some 46, none, .ext (.tmp 39) 0⟩,
    ⟨some 47, none, .ext (.tmp 39) 1⟩,
    ⟨some 5, none, .mv (.tmp 46)⟩,
    ⟨some 6, none, .mv (.tmp 47)⟩])
  (.seq (.reg [⟨some 48, none, .mv (.tmp 6)⟩,
    ⟨some 49, none, .bin .eql .plain (.tmp 48) (.cst (.int .i64 0))⟩,
    ⟨some 50, none, .mv (.tmp 49)⟩,
    ⟨some 51, some (50, true), .mv (.tmp 5)⟩,
    ⟨some 52, some (50, true), .bsl 4 1 false [(.int .u64 0)] [(0, 1, (.cst (.int .u64 1))), (1, 1, (.cst (.int .u64 0))), (2, 1, (.cst (.int .u64 15))), (3, 1, (.cst (.int .u64 7)))]⟩,
    ⟨some 53, some (50, true), .call 48 [(.tmp 51), (.tmp 52)]⟩,
    ⟨some 54, none, .pick (.tmp 50) (.tmp 53) (.cst (.bool false))⟩,
    ⟨some 0, none, .mv (.tmp 54)⟩])
  (.ret)))))))))⟩

theorem tr10 : trF Go.Proofs.Try.prog { obj := [], bare := [], loops := [], draws := [], glob := [], fresh := false } Go.Proofs.Try.f10 = some ir10 := by kernel_rfl

/-- privity/privityref01.Supported -/
def ir11 : IFn := ⟨6, [.tmp 2 false],
  .seq (.reg [⟨some 2, none, .mv (.cst (.bool false))⟩])
  (.seq (.reg [⟨some 3, none, .mv (.tmp 0)⟩,
    ⟨some 4, none, .call 49 [(.tmp 3)]⟩,
    ⟨some 5, none, .bin .gtr .plain (.tmp 4) (.cst (.int .i64 0))⟩,
    ⟨some 2, none, .mv (.tmp 5)⟩])
  (.ret))⟩

theorem tr11 : trF Go.Proofs.Try.prog { obj := [], bare := [], loops := [], draws := [], glob := [], fresh := false } Go.Proofs.Try.f11 = some ir11 := by kernel_rfl

/-- privity/gadget.New -/
def ir12 : IFn := ⟨6, [.tmp 2 false],
  .seq (.reg [⟨some 2, none, .mv (.cst .nilptr)⟩])
  (.seq (.reg [⟨some 3, none, .mv (.tmp 0)⟩,
    ⟨some 4, none, .bld [(.int .u64 0), (.vec [] .full), (.vec [] .full)] [(0, 1, (.tmp 3))]⟩,
    ⟨some 5, none, .box (.tmp 4) true⟩,
    ⟨some 2, none, .mv (.tmp 5)⟩])
  (.ret))⟩

theorem tr12 : trF Go.Proofs.Try.prog { obj := [5, 4], bare := [], loops := [], draws := [], glob := [], fresh := false } Go.Proofs.Try.f12 = some ir12 := by kernel_rfl

/-- (*privity/gadget.Builder).Input -/
def ir13 : IFn := ⟨15, [.tmp 6 false],
  .seq (.reg [⟨some 6, none, .mv (.cst (.int .i64 0))⟩])
  (.seq (.reg [⟨some 8, none, .mv (.tmp 1)⟩,
    ⟨some 9, none, .bld [(.int .i64 0), (.int .i64 0), (.int .i64 0), (.int .i64 0), (.int .u64 0)] [(0, 1, (.cst (.int .i64 1))), (1, 1, (.tmp 8))]⟩,
    ⟨some 7, none, .allocz [(.int .i64 0), (.int .i64 0), (.int .i64 0), (.int .i64 0), (.int .u64 0)] false⟩,
    ⟨none, none, .store (.tmp 7) (.tmp 9) 5⟩])
  (.seq (.seq (.reg [⟨some 10, none, .mv (.tmp 2)⟩])
  (.cond (.tmp 10)
   (.reg [⟨some 11, none, .fad (.tmp 7) 4⟩,
     ⟨none, none, .store (.tmp 11) (.cst (.int .u64 1)) 1⟩])
   (.skip)))
  (.seq (.reg [⟨some 12, none, .mv (.tmp 0)⟩,
    ⟨some 13, none, .load (.tmp 7) 5 true⟩,
    ⟨some 14, none, .call 50 [(.tmp 12), (.tmp 13)]⟩,
    ⟨some 6, none, .mv (.tmp 14)⟩])
  (.ret))))⟩

theorem tr13 : trF Go.Proofs.Try.prog { obj := [], bare := [], loops := [], draws := [], glob := [], fresh := false } Go.Proofs.Try.f13 = some ir13 := by kernel_rfl

/-- (*privity/gadget.Builder).Output -/
def ir14 : IFn := ⟨14, [],
  .reg [⟨some 4, none, .mv (.tmp 0)⟩,
    ⟨some 5, none, .mv (.tmp 0)⟩,
    ⟨some 6, none, .nilc (.tmp 5)⟩,
    ⟨some 7, none, .fad (.tmp 6) 2⟩,
    ⟨some 8, none, .load (.tmp 7) 1 false⟩,
    ⟨some 9, none, .mv (.tmp 1)⟩,
    ⟨some 10, none, .bsl 1 1 false [(.int .i64 0)] [(0, 1, (.tmp 9))]⟩,
    ⟨some 11, none, .app (.tmp 8) (.tmp 10) 1 8 false true⟩,
    ⟨some 12, none, .nilc (.tmp 4)⟩,
    ⟨some 13, none, .fad (.tmp 12) 2⟩,
    ⟨none, none, .store (.tmp 13) (.tmp 11) 1⟩]⟩

theorem tr14 : trF Go.Proofs.Try.prog { obj := [11], bare := [], loops := [], draws := [], glob := [], fresh := false } Go.Proofs.Try.f14 = some ir14 := by kernel_rfl

/-- (*privity/gadget.Builder).Add -/
def ir15 : IFn := ⟨12, [.tmp 6 false],
  .seq (.reg [⟨some 6, none, .mv (.cst (.int .i64 0))⟩])
  (.seq (.reg [⟨some 7, none, .mv (.tmp 0)⟩,
    ⟨some 8, none, .mv (.tmp 1)⟩,
    ⟨some 9, none, .mv (.tmp 2)⟩,
    ⟨some 10, none, .bld [(.int .i64 0), (.int .i64 0), (.int .i64 0), (.int .i64 0), (.int .u64 0)] [(0, 1, (.cst (.int .i64 3))), (2, 1, (.tmp 8)), (3, 1, (.tmp 9))]⟩,
    ⟨some 11, none, .call 50 [(.tmp 7), (.tmp 10)]⟩,
    ⟨some 6, none, .mv (.tmp 11)⟩])
  (.ret))⟩

theorem tr15 : trF Go.Proofs.Try.prog { obj := [], bare := [], loops := [], draws := [], glob := [], fresh := false } Go.Proofs.Try.f15 = some ir15 := by kernel_rfl

/-- (*privity/gadget.Builder).Sub -/
def ir16 : IFn := ⟨12, [.tmp 6 false],
  .seq (.reg [⟨some 6, none, .mv (.cst (.int .i64 0))⟩])
  (.seq (.reg [⟨some 7, none, .mv (.tmp 0)⟩,
    ⟨some 8, none, .mv (.tmp 1)⟩,
    ⟨some 9, none, .mv (.tmp 2)⟩,
    ⟨some 10, none, .bld [(.int .i64 0), (.int .i64 0), (.int .i64 0), (.int .i64 0), (.int .u64 0)] [(0, 1, (.cst (.int .i64 4))), (2, 1, (.tmp 8)), (3, 1, (.tmp 9))]⟩,
    ⟨some 11, none, .call 50 [(.tmp 7), (.tmp 10)]⟩,
    ⟨some 6, none, .mv (.tmp 11)⟩])
  (.ret))⟩

theorem tr16 : trF Go.Proofs.Try.prog { obj := [], bare := [], loops := [], draws := [], glob := [], fresh := false } Go.Proofs.Try.f16 = some ir16 := by kernel_rfl

/-- (*privity/gadget.Builder).Mul -/
def ir17 : IFn := ⟨12, [.tmp 6 false],
  .seq (.reg [⟨some 6, none, .mv (.cst (.int .i64 0))⟩])
  (.seq (.reg [⟨some 7, none, .mv (.tmp 0)⟩,
    ⟨some 8, none, .mv (.tmp 1)⟩,
    ⟨some 9, none, .mv (.tmp 2)⟩,
    ⟨some 10, none, .bld [(.int .i64 0), (.int .i64 0), (.int .i64 0), (.int .i64 0), (.int .u64 0)] [(0, 1, (.cst (.int .i64 6))), (2, 1, (.tmp 8)), (3, 1, (.tmp 9))]⟩,
    ⟨some 11, none, .call 50 [(.tmp 7), (.tmp 10)]⟩,
    ⟨some 6, none, .mv (.tmp 11)⟩])
  (.ret))⟩

theorem tr17 : trF Go.Proofs.Try.prog { obj := [], bare := [], loops := [], draws := [], glob := [], fresh := false } Go.Proofs.Try.f17 = some ir17 := by kernel_rfl

/-- (*privity/gadget.Builder).Scale -/
def ir18 : IFn := ⟨12, [.tmp 6 false],
  .seq (.reg [⟨some 6, none, .mv (.cst (.int .i64 0))⟩])
  (.seq (.reg [⟨some 7, none, .mv (.tmp 0)⟩,
    ⟨some 8, none, .mv (.tmp 2)⟩,
    ⟨some 9, none, .mv (.tmp 1)⟩,
    ⟨some 10, none, .bld [(.int .i64 0), (.int .i64 0), (.int .i64 0), (.int .i64 0), (.int .u64 0)] [(0, 1, (.cst (.int .i64 5))), (2, 1, (.tmp 8)), (4, 1, (.tmp 9))]⟩,
    ⟨some 11, none, .call 50 [(.tmp 7), (.tmp 10)]⟩,
    ⟨some 6, none, .mv (.tmp 11)⟩])
  (.ret))⟩

theorem tr18 : trF Go.Proofs.Try.prog { obj := [], bare := [], loops := [], draws := [], glob := [], fresh := false } Go.Proofs.Try.f18 = some ir18 := by kernel_rfl

/-- (*privity/gadget.Builder).Const -/
def ir19 : IFn := ⟨9, [.tmp 4 false],
  .seq (.reg [⟨some 4, none, .mv (.cst (.int .i64 0))⟩])
  (.seq (.reg [⟨some 5, none, .mv (.tmp 0)⟩,
    ⟨some 6, none, .mv (.tmp 1)⟩,
    ⟨some 7, none, .bld [(.int .i64 0), (.int .i64 0), (.int .i64 0), (.int .i64 0), (.int .u64 0)] [(0, 1, (.cst (.int .i64 2))), (4, 1, (.tmp 6))]⟩,
    ⟨some 8, none, .call 50 [(.tmp 5), (.tmp 7)]⟩,
    ⟨some 4, none, .mv (.tmp 8)⟩])
  (.ret))⟩

theorem tr19 : trF Go.Proofs.Try.prog { obj := [], bare := [], loops := [], draws := [], glob := [], fresh := false } Go.Proofs.Try.f19 = some ir19 := by kernel_rfl

/-- privity/privityref34.Op -/
def ir20 : IFn := ⟨62, [.tmp 10 false],
  .seq (.reg [⟨some 10, none, .mv (.cst (.int .u64 0))⟩])
  (.seq (.seq (.reg [⟨some 11, none, .mv (.tmp 1)⟩])
  (.block 0
   (.seq (.reg [⟨some 13, none, .bin .eql .plain (.tmp 11) (.cst (.int .i64 0))⟩,
     ⟨some 12, none, .mv (.tmp 13)⟩])
   (.cond (.tmp 12)
    (.seq (.reg [⟨some 14, none, .mv (.tmp 0)⟩,
      ⟨some 15, none, .mv (.tmp 2)⟩,
      ⟨some 16, none, .mv (.tmp 3)⟩,
      ⟨some 17, none, .call 51 [(.tmp 14), (.tmp 15), (.tmp 16)]⟩,
      ⟨some 10, none, .mv (.tmp 17)⟩])
    (.ret))
    (.seq (.reg [⟨some 19, none, .bin .eql .plain (.tmp 11) (.cst (.int .i64 1))⟩,
      ⟨some 18, none, .mv (.tmp 19)⟩])
    (.cond (.tmp 18)
     (.seq (.reg [⟨some 20, none, .mv (.tmp 0)⟩,
       ⟨some 21, none, .mv (.tmp 2)⟩,
       ⟨some 22, none, .mv (.tmp 3)⟩,
       ⟨some 23, none, .call 52 [(.tmp 20), (.tmp 21), (.tmp 22)]⟩,
       ⟨some 10, none, .mv (.tmp 23)⟩])
     (.ret))
     (.seq (.reg [⟨some 25, none, .bin .eql .plain (.tmp 11) (.cst (.int .i64 2))⟩,
       ⟨some 24, none, .mv (.tmp 25)⟩])
     (.cond (.tmp 24)
      (.seq (.reg [⟨some 26, none, .mv (.tmp 0)⟩,
        ⟨some 27, none, .mv (.tmp 2)⟩,
        ⟨some 28, none, .mv (.tmp 3)⟩,
        ⟨some 29, none, .call 21 [(.tmp 26), (.tmp 27), (.tmp 28)]⟩,
        ⟨some 10, none, .mv (.tmp 29)⟩])
      (.ret))
      (.seq (.reg [⟨some 31, none, .bin .eql .plain (.tmp 11) (.cst (.int .i64 3))⟩,
        ⟨some 30, none, .mv (.tmp 31)⟩])
      (.cond (.tmp 30)
       (.seq (.reg [⟨some 32, none, .mv (.tmp 2)⟩,
         ⟨some 33, none, .bin .sub .plain (.cst (.int .u64 1)) (.tmp 32)⟩,
         ⟨some 10, none, .mv (.tmp 33)⟩])
       (.ret))
       (.seq (.reg [⟨some 35, none, .bin .eql .plain (.tmp 11) (.cst (.int .i64 4))⟩,
         ⟨some 34, none, .mv (.tmp 35)⟩])
       (.cond (.tmp 34)
        (.seq (.reg [⟨some 36, none, .mv (.tmp 2)⟩,
          ⟨some 37, none, .mv (.tmp 3)⟩,
          ⟨some 38, none, .bin .mul .plain (.tmp 36) (.tmp 37)⟩,
          ⟨some 10, none, .mv (.tmp 38)⟩])
        (.ret))
        (.seq (.reg [⟨some 40, none, .bin .eql .plain (.tmp 11) (.cst (.int .i64 5))⟩,
          ⟨some 39, none, .mv (.tmp 40)⟩])
        (.cond (.tmp 39)
         (.seq (.reg [⟨some 41, none, .mv (.tmp 2)⟩,
           ⟨some 42, none, .mv (.tmp 3)⟩,
           ⟨some 43, none, .bin .add .plain (.tmp 41) (.tmp 42)⟩,
           ⟨some 44, none, .mv (.tmp 2)⟩,
           ⟨some 45, none, .mv (.tmp 3)⟩,
           ⟨some 46, none, .bin .mul .plain (.tmp 44) (.tmp 45)⟩,
           ⟨some 47, none, .bin .sub .plain (.tmp 43) (.tmp 46)⟩,
           ⟨some 10, none, .mv (.tmp 47)⟩])
         (.ret))
         (.seq (.reg [⟨some 49, none, .bin .eql .plain (.tmp 11) (.cst (.int .i64 6))⟩,
           ⟨some 48, none, .mv (.tmp 49)⟩])
         (.cond (.tmp 48)
          (.seq (.reg [⟨some 50, none, .mv (.tmp 2)⟩,
            ⟨some 51, none, .mv (.tmp 3)⟩,
            ⟨some 52, none, .bin .add .plain (.tmp 50) (.tmp 51)⟩,
            ⟨some 53, none, .mv (.tmp 2)⟩,
            ⟨some 54, none, .bin .mul .plain (.cst (.int .u64 2)) (.tmp 53)⟩,
            ⟨some 55, none, .mv (.tmp 3)⟩,
            ⟨some 56, none, .bin .mul .plain (.tmp 54) (.tmp 55)⟩,
            ⟨some 57, none, .bin .sub .plain (.tmp 52) (.tmp 56)⟩,
            ⟨some 10, none, .mv (.tmp 57)⟩])
          (.ret))
          (.skip)))))))))))))))))
  (.seq (.seq (.reg [⟨some 58, none, .mv (.tmp 4)⟩,
    ⟨some 59, none, .bin .eql .plain (.tmp 58) (.cst (.int .u64 1))⟩])
  (.cond (.tmp 59)
   (.seq (.reg [⟨some 60, none, .mv (.tmp 2)⟩,
     ⟨some 10, none, .mv (.tmp 60)⟩])
   (.ret))
   (.skip)))
  (.seq (.reg [⟨some 61, none, .mv (.tmp 3)⟩,
    ⟨some 10, none, .mv (.tmp 61)⟩])
  (.ret))))⟩

theorem tr20 : trF Go.Proofs.Try.prog { obj := [], bare := [], loops := [], draws := [], glob := [], fresh := false } Go.Proofs.Try.f20 = some ir20 := by kernel_rfl

/-- privity/privityref01.Mul -/
def ir21 : IFn := ⟨26, [.tmp 6 false],
  .seq (.reg [⟨some 6, none, .mv (.cst (.int .u64 0))⟩])
  (.seq (.reg [⟨some 7, none, .mv (.cst (.int .u64 0))⟩])
  (.seq (.block 0
   (.loop [0, 1, 2, 7]
    (.seq (.seq (.reg [⟨some 8, none, .mv (.tmp 2)⟩,
      ⟨some 9, none, .bin .gtr .plain (.tmp 8) (.cst (.int .u64 0))⟩])
    (.cond (.tmp 9)
     (.skip)
     (.brk 0)))
    (.block 1
     (.seq (.seq (.reg [⟨some 10, none, .mv (.tmp 2)⟩,
       ⟨some 11, none, .bin .rem .plain (.tmp 10) (.cst (.int .u64 2))⟩,
       ⟨some 12, none, .bin .eql .plain (.tmp 11) (.cst (.int .u64 1))⟩])
     (.cond (.tmp 12)
      (.reg [⟨some 13, none, .mv (.tmp 7)⟩,
        ⟨some 14, none, .mv (.tmp 1)⟩,
        ⟨some 15, none, .bin .add .plain (.tmp 13) (.tmp 14)⟩,
        ⟨some 16, none, .mv (.tmp 0)⟩,
        ⟨some 17, none, .bin .rem .plain (.tmp 15) (.tmp 16)⟩,
        ⟨some 7, none, .mv (.tmp 17)⟩])
      (.skip)))
     (.seq (.reg [⟨some 18, none, .mv (.tmp 1)⟩,
       ⟨some 19, none, .mv (.tmp 1)⟩,
       ⟨some 20, none, .bin .add .plain (.tmp 18) (.tmp 19)⟩,
       ⟨some 21, none, .mv (.tmp 0)⟩,
       ⟨some 22, none, .bin .rem .plain (.tmp 20) (.tmp 21)⟩,
       ⟨some 1, none, .mv (.tmp 22)⟩])
     (.reg [⟨some 23, none, .mv (.tmp 2)⟩,
       ⟨some 24, none, .bin .quo .plain (.tmp 23) (.cst (.int .u64 2))⟩,
       ⟨some 2, none, .mv (.tmp 24)⟩])))))))
  (.seq (.reg [⟨some 25, none, .mv (.tmp 7)⟩,
    ⟨some 6, none, .mv (.tmp 25)⟩])
  (.ret))))⟩

theorem tr21 : trF Go.Proofs.Try.prog { obj := [], bare := [], loops := [[0, 1, 2, 7]], draws := [], glob := [], fresh := false } Go.Proofs.Try.f21 = some ir21 := by kernel_rfl

/-- privity/privitylaw34.tells -/
def ir22 : IFn := ⟨26, [.tmp 6 false],
  .seq (.reg [⟨some 3, none, .box (.tmp 0) false⟩,
    ⟨some 6, none, .mv (.cst (.bool false))⟩])
  (.seq (.reg [⟨some 10, none, .load (.tmp 3) 3 true⟩,
    ⟨some 11, none, .mv (.tmp 1)⟩,
    ⟨some 12, none, .call 47 [(.tmp 10), (.tmp 11)]⟩,
    ⟨some 9, none, .mv (.tmp 12)⟩,
    ⟨some 13, none, .ext (.tmp 9) 0⟩,
    ⟨some 14, none, .ext (.tmp 9) 1⟩,
    ⟨some 7, none, .mv (.tmp 13)⟩,
    ⟨some 8, none, .mv (.tmp 14)⟩])
  (.seq (.reg [⟨some 15, none, .load (.tmp 3) 3 true⟩,
    ⟨some 16, none, .call 53 [(.tmp 15)]⟩,
    ⟨some 17, none, .mv (.tmp 16)⟩,
    ⟨some 18, some (17, true), .mv (.tmp 8)⟩,
    ⟨some 19, some (17, true), .bin .eql .plain (.tmp 18) (.cst (.int .i64 0))⟩,
    ⟨some 20, none, .pick (.tmp 17) (.tmp 19) (.cst (.bool false))⟩,
    ⟨some 21, none, .mv (.tmp 20)⟩,
    ⟨some 22, some (21, true), .mv (.tmp 7)⟩,
    ⟨some 23, some (21, true), .mv (.tmp 2)⟩,
    ⟨some 24, some (21, true), .call 48 [(.tmp 22), (.tmp 23)]⟩,
    ⟨some 25, none, .pick (.tmp 21) (.tmp 24) (.cst (.bool false))⟩,
    ⟨some 6, none, .mv (.tmp 25)⟩])
  (.ret)))⟩

theorem tr22 : trF Go.Proofs.Try.prog { obj := [], bare := [], loops := [], draws := [], glob := [], fresh := false } Go.Proofs.Try.f22 = some ir22 := by kernel_rfl

/-- (*privity/gadget.Builder).Circuit -/
def ir23 : IFn := ⟨18, [.cell 2 3 true false],
  .seq (.reg [⟨some 2, none, .allocz [(.int .u64 0), (.vec [] .full), (.vec [] .full)] false⟩])
  (.seq (.draw [(⟨some 3, none, .mv (.tmp 0)⟩, 0, []),
    (⟨some 4, none, .nilc (.tmp 3)⟩, 1, []),
    (⟨some 5, none, .fad (.tmp 4) 0⟩, 2, []),
    (⟨some 6, none, .load (.tmp 5) 1 false⟩, 3, []),
    (⟨some 7, none, .mv (.tmp 0)⟩, 4, []),
    (⟨some 8, none, .nilc (.tmp 7)⟩, 5, []),
    (⟨some 9, none, .fad (.tmp 8) 1⟩, 6, []),
    (⟨some 10, none, .load (.tmp 9) 1 false⟩, 7, []),
    (⟨some 12, none, .mv (.tmp 0)⟩, 9, []),
    (⟨some 13, none, .nilc (.tmp 12)⟩, 10, []),
    (⟨some 14, none, .fad (.tmp 13) 2⟩, 11, []),
    (⟨some 15, none, .load (.tmp 14) 1 false⟩, 12, []),
    (⟨some 11, none, .call 54 [(.tmp 10)]⟩, 8, [3, 11]),
    (⟨some 16, none, .call 55 [(.tmp 15)]⟩, 13, [3]),
    (⟨some 17, none, .bld [(.int .u64 0), (.vec [] .any), (.vec [] .any)] [(0, 1, (.tmp 6)), (1, 1, (.tmp 11)), (2, 1, (.tmp 16))]⟩, 14, []),
    (⟨none, none, .store (.tmp 2) (.tmp 17) 3⟩, 15, [])])
  (.ret))⟩

theorem tr23 : trF Go.Proofs.Try.prog { obj := [], bare := [], loops := [], draws := [(1, ([0, 1, 3, 7, 0, 16, 48, 112, 240, 0, 512, 1536, 3584, 8176, 16383, 32767], [(0, []), (1, []), (2, []), (3, []), (4, []), (5, []), (6, []), (7, []), (9, []), (10, []), (11, []), (12, []), (8, [3, 11]), (13, [3]), (14, []), (15, [])]))], glob := [], fresh := false } Go.Proofs.Try.f23 = some ir23 := by kernel_rfl

/-- privity/privityref05.Below -/
def ir24 : IFn := ⟨18, [.tmp 4 false],
  .seq (.reg [⟨some 4, none, .mv (.cst (.bool false))⟩])
  (.seq (.seq (.reg [⟨some 5, none, .mv (.cst (.int .i64 0))⟩])
  (.block 0
   (.loop [0, 1, 5]
    (.seq (.seq (.reg [⟨some 6, none, .mv (.tmp 5)⟩,
      ⟨some 7, none, .mv (.tmp 1)⟩,
      ⟨some 8, none, .len .i (.tmp 7)⟩,
      ⟨some 9, none, .bin .lss .plain (.tmp 6) (.tmp 8)⟩])
    (.cond (.tmp 9)
     (.skip)
     (.brk 0)))
    (.seq (.block 1
     (.seq (.reg [⟨some 12, none, .mv (.tmp 1)⟩,
       ⟨some 13, none, .mv (.tmp 5)⟩,
       ⟨some 14, none, .idxS (.tmp 12) (.tmp 13) 1⟩,
       ⟨some 15, none, .load (.tmp 14) 1 false⟩,
       ⟨some 16, none, .mv (.tmp 0)⟩,
       ⟨some 17, none, .bin .geq .plain (.tmp 15) (.tmp 16)⟩])
     (.cond (.tmp 17)
      (.seq (.reg [⟨some 4, none, .mv (.cst (.bool false))⟩])
      (.ret))
      (.skip))))
    (.reg [⟨some 10, none, .mv (.tmp 5)⟩,
      ⟨some 11, none, .bin .add .plain (.tmp 10) (.cst (.int .i64 1))⟩,
      ⟨some 5, none, .mv (.tmp 11)⟩]))))))
  (.seq (.reg [⟨some 4, none, .mv (.cst (.bool true))⟩])
  (.ret)))⟩

theorem tr24 : trF Go.Proofs.Try.prog { obj := [], bare := [], loops := [[0, 1, 5]], draws := [], glob := [], fresh := false } Go.Proofs.Try.f24 = some ir24 := by kernel_rfl

/-- privity/privityref32.Equal -/
def ir25 : IFn := ⟨66, [.tmp 4 false],
  .seq (.reg [⟨some 2, none, .box (.tmp 0) false⟩,
    ⟨some 3, none, .box (.tmp 1) false⟩,
    ⟨some 4, none, .mv (.cst (.bool false))⟩])
  (.seq (.seq (.reg [⟨some 7, none, .fad (.tmp 2) 0⟩,
    ⟨some 8, none, .load (.tmp 7) 1 false⟩,
    ⟨some 9, none, .fad (.tmp 3) 0⟩,
    ⟨some 10, none, .load (.tmp 9) 1 false⟩,
    ⟨some 11, none, .bin .neq .plain (.tmp 8) (.tmp 10)⟩,
    ⟨some 12, none, .mv (.tmp 11)⟩,
    ⟨some 13, some (12, false), .fad (.tmp 2) 1⟩,
    ⟨some 14, some (12, false), .load (.tmp 13) 1 false⟩,
    ⟨some 15, some (12, false), .len .i (.tmp 14)⟩,
    ⟨some 16, some (12, false), .fad (.tmp 3) 1⟩,
    ⟨some 17, some (12, false), .load (.tmp 16) 1 false⟩,
    ⟨some 18, some (12, false), .len .i (.tmp 17)⟩,
    ⟨some 19, some (12, false), .bin .neq .plain (.tmp 15) (.tmp 18)⟩,
    ⟨some 20, none, .pick (.tmp 12) (.cst (.bool true)) (.tmp 19)⟩,
    ⟨some 21, none, .mv (.tmp 20)⟩,
    ⟨some 22, some (21, false), .fad (.tmp 2) 2⟩,
    ⟨some 23, some (21, false), .load (.tmp 22) 1 false⟩,
    ⟨some 24, some (21, false), .len .i (.tmp 23)⟩,
    ⟨some 25, some (21, false), .fad (.tmp 3) 2⟩,
    ⟨some 26, some (21, false), .load (.tmp 25) 1 false⟩,
    ⟨some 27, some (21, false), .len .i (.tmp 26)⟩,
    ⟨some 28, some (21, false), .bin .neq .plain (.tmp 24) (.tmp 27)⟩,
    ⟨some 29, none, .pick (.tmp 21) (.cst (.bool true)) (.tmp 28)⟩])
  (.cond (.tmp 29)
   (.seq (.reg [⟨some 4, none, .mv (.cst (.bool false))⟩])
   (.ret))
   (.skip)))
  (.seq (.seq (.reg [⟨some 5, none, .mv (.cst (.int .i64 0))⟩])
  (.block 0
   (.loop [2, 3, 5]
    (.seq (.seq (.reg [⟨some 30, none, .mv (.tmp 5)⟩,
      ⟨some 31, none, .fad (.tmp 2) 1⟩,
      ⟨some 32, none, .load (.tmp 31) 1 false⟩,
      ⟨some 33, none, .len .i (.tmp 32)⟩,
      ⟨some 34, none, .bin .lss .plain (.tmp 30) (.tmp 33)⟩])
    (.cond (.tmp 34)
     (.skip)
     (.brk 0)))
    (.seq (.block 1
     (.seq (.draw [(⟨some 37, none, .fad (.tmp 2) 1⟩, 0, []),
       (⟨some 38, none, .load (.tmp 37) 1 false⟩, 1, []),
       (⟨some 39, none, .mv (.tmp 5)⟩, 2, []),
       (⟨some 40, none, .idxS (.tmp 38) (.tmp 39) 5⟩, 3, []),
       (⟨some 41, none, .load (.tmp 40) 5 true⟩, 4, []),
       (⟨some 42, none, .fad (.tmp 3) 1⟩, 5, []),
       (⟨some 43, none, .load (.tmp 42) 1 false⟩, 6, []),
       (⟨some 44, none, .mv (.tmp 5)⟩, 7, []),
       (⟨some 45, none, .idxS (.tmp 43) (.tmp 44) 5⟩, 8, []),
       (⟨some 46, none, .load (.tmp 45) 5 true⟩, 9, []),
       (⟨some 47, none, .bin .neq (.agg [(0, .i), (1, .i), (2, .i), (3, .i), (4, .i)]) (.tmp 41) (.tmp 46)⟩, 10, [])])
     (.cond (.tmp 47)
      (.seq (.reg [⟨some 4, none, .mv (.cst (.bool false))⟩])
      (.ret))
      (.skip))))
    (.reg [⟨some 35, none, .mv (.tmp 5)⟩,
      ⟨some 36, none, .bin .add .plain (.tmp 35) (.cst (.int .i64 1))⟩,
      ⟨some 5, none, .mv (.tmp 36)⟩]))))))
  (.seq (.seq (.reg [⟨some 6, none, .mv (.cst (.int .i64 0))⟩])
  (.block 2
   (.loop [2, 3, 6]
    (.seq (.seq (.reg [⟨some 48, none, .mv (.tmp 6)⟩,
      ⟨some 49, none, .fad (.tmp 2) 2⟩,
      ⟨some 50, none, .load (.tmp 49) 1 false⟩,
      ⟨some 51, none, .len .i (.tmp 50)⟩,
      ⟨some 52, none, .bin .lss .plain (.tmp 48) (.tmp 51)⟩])
    (.cond (.tmp 52)
     (.skip)
     (.brk 2)))
    (.seq (.block 3
     (.seq (.draw [(⟨some 55, none, .fad (.tmp 2) 2⟩, 0, []),
       (⟨some 56, none, .load (.tmp 55) 1 false⟩, 1, []),
       (⟨some 57, none, .mv (.tmp 6)⟩, 2, []),
       (⟨some 58, none, .idxS (.tmp 56) (.tmp 57) 1⟩, 3, []),
       (⟨some 59, none, .load (.tmp 58) 1 false⟩, 4, []),
       (⟨some 60, none, .fad (.tmp 3) 2⟩, 5, []),
       (⟨some 61, none, .load (.tmp 60) 1 false⟩, 6, []),
       (⟨some 62, none, .mv (.tmp 6)⟩, 7, []),
       (⟨some 63, none, .idxS (.tmp 61) (.tmp 62) 1⟩, 8, []),
       (⟨some 64, none, .load (.tmp 63) 1 false⟩, 9, []),
       (⟨some 65, none, .bin .neq .plain (.tmp 59) (.tmp 64)⟩, 10, [])])
     (.cond (.tmp 65)
      (.seq (.reg [⟨some 4, none, .mv (.cst (.bool false))⟩])
      (.ret))
      (.skip))))
    (.reg [⟨some 53, none, .mv (.tmp 6)⟩,
      ⟨some 54, none, .bin .add .plain (.tmp 53) (.cst (.int .i64 1))⟩,
      ⟨some 6, none, .mv (.tmp 54)⟩]))))))
  (.seq (.reg [⟨some 4, none, .mv (.cst (.bool true))⟩])
  (.ret)))))⟩

theorem tr25 : trF Go.Proofs.Try.prog { obj := [], bare := [], loops := [[2, 3, 5], [2, 3, 6]], draws := [(6, ([0, 1, 0, 7, 15, 0, 32, 0, 224, 480, 1023], [(0, []), (1, []), (2, []), (3, []), (4, []), (5, []), (6, []), (7, []), (8, []), (9, []), (10, [])])), (11, ([0, 1, 0, 7, 15, 0, 32, 0, 224, 480, 1023], [(0, []), (1, []), (2, []), (3, []), (4, []), (5, []), (6, []), (7, []), (8, []), (9, []), (10, [])]))], glob := [], fresh := false } Go.Proofs.Try.f25 = some ir25 := by kernel_rfl

/-- privity/privitylaw34.ins -/
def ir26 : IFn := ⟨21, [.tmp 6 false],
  .seq (.reg [⟨some 6, none, .mv (.cst (.vec [] .full))⟩])
  (.seq (.reg [⟨some 7, none, .mv (.cst (.vec [] .full))⟩])
  (.seq (.seq (.reg [⟨some 8, none, .mv (.cst (.int .i64 0))⟩])
  (.block 0
   (.loop [0, 1, 2, 7, 8]
    (.seq (.seq (.reg [⟨some 9, none, .mv (.tmp 8)⟩,
      ⟨some 10, none, .mv (.tmp 2)⟩,
      ⟨some 11, none, .bin .lss .plain (.tmp 9) (.tmp 10)⟩])
    (.cond (.tmp 11)
     (.skip)
     (.brk 0)))
    (.seq (.block 1
     (.reg [⟨some 14, none, .mv (.tmp 7)⟩,
       ⟨some 15, none, .mv (.tmp 0)⟩,
       ⟨some 16, none, .mv (.tmp 1)⟩,
       ⟨some 17, none, .call 13 [(.tmp 15), (.tmp 16), (.cst (.bool true))]⟩,
       ⟨some 18, none, .bsl 1 1 false [(.int .i64 0)] [(0, 1, (.tmp 17))]⟩,
       ⟨some 19, none, .app (.tmp 14) (.tmp 18) 1 8 false false⟩,
       ⟨some 7, none, .mv (.tmp 19)⟩]))
    (.reg [⟨some 12, none, .mv (.tmp 8)⟩,
      ⟨some 13, none, .bin .add .plain (.tmp 12) (.cst (.int .i64 1))⟩,
      ⟨some 8, none, .mv (.tmp 13)⟩]))))))
  (.seq (.reg [⟨some 20, none, .mv (.tmp 7)⟩,
    ⟨some 6, none, .mv (.tmp 20)⟩])
  (.ret))))⟩

theorem tr26 : trF Go.Proofs.Try.prog { obj := [], bare := [], loops := [[0, 1, 2, 7, 8]], draws := [], glob := [], fresh := false } Go.Proofs.Try.f26 = some ir26 := by kernel_rfl

/-- privity/privityref34.Words -/
def ir27 : IFn := ⟨22, [.tmp 2 false],
  .seq (.reg [⟨some 2, none, .mv (.cst (.vec [] .full))⟩])
  (.seq (.reg [⟨some 3, none, .mv (.cst (.vec [] .full))⟩])
  (.seq (.seq (.reg [⟨some 4, none, .mv (.cst (.int .i64 0))⟩])
  (.block 0
   (.loop [0, 3, 4]
    (.seq (.seq (.reg [⟨some 5, none, .mv (.tmp 4)⟩,
      ⟨some 6, none, .mv (.tmp 0)⟩,
      ⟨some 7, none, .len .i (.tmp 6)⟩,
      ⟨some 8, none, .bin .lss .plain (.tmp 5) (.tmp 7)⟩])
    (.cond (.tmp 8)
     (.skip)
     (.brk 0)))
    (.seq (.block 1
     (.seq (.reg [⟨some 11, none, .mv (.tmp 0)⟩,
       ⟨some 12, none, .mv (.tmp 4)⟩,
       ⟨some 13, none, .idxS (.tmp 11) (.tmp 12) 1⟩,
       ⟨some 14, none, .load (.tmp 13) 1 false⟩])
     (.cond (.tmp 14)
      (.reg [⟨some 15, none, .mv (.tmp 3)⟩,
        ⟨some 16, none, .bsl 1 1 false [(.int .u64 0)] [(0, 1, (.cst (.int .u64 1)))]⟩,
        ⟨some 17, none, .app (.tmp 15) (.tmp 16) 1 8 false false⟩,
        ⟨some 3, none, .mv (.tmp 17)⟩])
      (.reg [⟨some 18, none, .mv (.tmp 3)⟩,
        ⟨some 19, none, .bsl 1 1 false [(.int .u64 0)] [(0, 1, (.cst (.int .u64 0)))]⟩,
        ⟨some 20, none, .app (.tmp 18) (.tmp 19) 1 8 false false⟩,
        ⟨some 3, none, .mv (.tmp 20)⟩]))))
    (.reg [⟨some 9, none, .mv (.tmp 4)⟩,
      ⟨some 10, none, .bin .add .plain (.tmp 9) (.cst (.int .i64 1))⟩,
      ⟨some 4, none, .mv (.tmp 10)⟩]))))))
  (.seq (.reg [⟨some 21, none, .mv (.tmp 3)⟩,
    ⟨some 2, none, .mv (.tmp 21)⟩])
  (.ret))))⟩

theorem tr27 : trF Go.Proofs.Try.prog { obj := [], bare := [], loops := [[0, 3, 4]], draws := [], glob := [], fresh := false } Go.Proofs.Try.f27 = some ir27 := by kernel_rfl

/-- (*privity/gadget.Builder).Not -/
def ir28 : IFn := ⟨10, [.tmp 4 false],
  .seq (.reg [⟨some 4, none, .mv (.cst (.int .i64 0))⟩])
  (.seq (.reg [⟨some 5, none, .mv (.tmp 0)⟩,
    ⟨some 6, none, .mv (.tmp 0)⟩,
    ⟨some 7, none, .call 19 [(.tmp 6), (.cst (.int .u64 1))]⟩,
    ⟨some 8, none, .mv (.tmp 1)⟩,
    ⟨some 9, none, .call 16 [(.tmp 5), (.tmp 7), (.tmp 8)]⟩,
    ⟨some 4, none, .mv (.tmp 9)⟩])
  (.ret))⟩

theorem tr28 : trF Go.Proofs.Try.prog { obj := [], bare := [], loops := [], draws := [], glob := [], fresh := false } Go.Proofs.Try.f28 = some ir28 := by kernel_rfl

/-- (*privity/gadget.Builder).And -/
def ir29 : IFn := ⟨11, [.tmp 6 false],
  .seq (.reg [⟨some 6, none, .mv (.cst (.int .i64 0))⟩])
  (.seq (.reg [⟨some 7, none, .mv (.tmp 0)⟩,
    ⟨some 8, none, .mv (.tmp 1)⟩,
    ⟨some 9, none, .mv (.tmp 2)⟩,
    ⟨some 10, none, .call 17 [(.tmp 7), (.tmp 8), (.tmp 9)]⟩,
    ⟨some 6, none, .mv (.tmp 10)⟩])
  (.ret))⟩

theorem tr29 : trF Go.Proofs.Try.prog { obj := [], bare := [], loops := [], draws := [], glob := [], fresh := false } Go.Proofs.Try.f29 = some ir29 := by kernel_rfl

/-- (*privity/gadget.Builder).Or -/
def ir30 : IFn := ⟨17, [.tmp 6 false],
  .seq (.reg [⟨some 6, none, .mv (.cst (.int .i64 0))⟩])
  (.seq (.reg [⟨some 7, none, .mv (.tmp 0)⟩,
    ⟨some 8, none, .mv (.tmp 0)⟩,
    ⟨some 9, none, .mv (.tmp 1)⟩,
    ⟨some 10, none, .mv (.tmp 2)⟩,
    ⟨some 11, none, .call 15 [(.tmp 8), (.tmp 9), (.tmp 10)]⟩,
    ⟨some 12, none, .mv (.tmp 0)⟩,
    ⟨some 13, none, .mv (.tmp 1)⟩,
    ⟨some 14, none, .mv (.tmp 2)⟩,
    ⟨some 15, none, .call 17 [(.tmp 12), (.tmp 13), (.tmp 14)]⟩,
    ⟨some 16, none, .call 16 [(.tmp 7), (.tmp 11), (.tmp 15)]⟩,
    ⟨some 6, none, .mv (.tmp 16)⟩])
  (.ret))⟩

theorem tr30 : trF Go.Proofs.Try.prog { obj := [], bare := [], loops := [], draws := [], glob := [], fresh := false } Go.Proofs.Try.f30 = some ir30 := by kernel_rfl

/-- (*privity/gadget.Builder).Xor -/
def ir31 : IFn := ⟨15, [.tmp 6 false],
  .seq (.reg [⟨some 6, none, .mv (.cst (.int .i64 0))⟩])
  (.seq (.reg [⟨some 7, none, .mv (.tmp 0)⟩,
    ⟨some 8, none, .mv (.tmp 1)⟩,
    ⟨some 9, none, .mv (.tmp 2)⟩,
    ⟨some 10, none, .mv (.tmp 0)⟩,
    ⟨some 11, none, .mv (.tmp 1)⟩,
    ⟨some 12, none, .mv (.tmp 2)⟩,
    ⟨some 13, none, .call 17 [(.tmp 10), (.tmp 11), (.tmp 12)]⟩,
    ⟨some 14, none, .call 56 [(.tmp 7), (.tmp 8), (.tmp 9), (.tmp 13)]⟩,
    ⟨some 6, none, .mv (.tmp 14)⟩])
  (.ret))⟩

theorem tr31 : trF Go.Proofs.Try.prog { obj := [], bare := [], loops := [], draws := [], glob := [], fresh := false } Go.Proofs.Try.f31 = some ir31 := by kernel_rfl

/-- (*privity/gadget.Builder).Select -/
def ir32 : IFn := ⟨19, [.tmp 8 false],
  .seq (.reg [⟨some 8, none, .mv (.cst (.int .i64 0))⟩])
  (.seq (.reg [⟨some 9, none, .mv (.tmp 0)⟩,
    ⟨some 10, none, .mv (.tmp 3)⟩,
    ⟨some 11, none, .mv (.tmp 0)⟩,
    ⟨some 12, none, .mv (.tmp 1)⟩,
    ⟨some 13, none, .mv (.tmp 0)⟩,
    ⟨some 14, none, .mv (.tmp 2)⟩,
    ⟨some 15, none, .mv (.tmp 3)⟩,
    ⟨some 16, none, .call 16 [(.tmp 13), (.tmp 14), (.tmp 15)]⟩,
    ⟨some 17, none, .call 17 [(.tmp 11), (.tmp 12), (.tmp 16)]⟩,
    ⟨some 18, none, .call 15 [(.tmp 9), (.tmp 10), (.tmp 17)]⟩,
    ⟨some 8, none, .mv (.tmp 18)⟩])
  (.ret))⟩

theorem tr32 : trF Go.Proofs.Try.prog { obj := [], bare := [], loops := [], draws := [], glob := [], fresh := false } Go.Proofs.Try.f32 = some ir32 := by kernel_rfl

/-- privity/privityref34.Muls -/
def ir33 : IFn := ⟨22, [.tmp 2 false],
  .seq (.reg [⟨some 1, none, .box (.tmp 0) false⟩,
    ⟨some 2, none, .mv (.cst (.int .i64 0))⟩])
  (.seq (.reg [⟨some 3, none, .mv (.cst (.int .i64 0))⟩])
  (.seq (.seq (.reg [⟨some 4, none, .mv (.cst (.int .i64 0))⟩])
  (.block 0
   (.loop [1, 3, 4]
    (.seq (.seq (.reg [⟨some 5, none, .mv (.tmp 4)⟩,
      ⟨some 6, none, .fad (.tmp 1) 1⟩,
      ⟨some 7, none, .load (.tmp 6) 1 false⟩,
      ⟨some 8, none, .len .i (.tmp 7)⟩,
      ⟨some 9, none, .bin .lss .plain (.tmp 5) (.tmp 8)⟩])
    (.cond (.tmp 9)
     (.skip)
     (.brk 0)))
    (.seq (.block 1
     (.seq (.reg [⟨some 12, none, .fad (.tmp 1) 1⟩,
       ⟨some 13, none, .load (.tmp 12) 1 false⟩,
       ⟨some 14, none, .mv (.tmp 4)⟩,
       ⟨some 15, none, .idxS (.tmp 13) (.tmp 14) 5⟩,
       ⟨some 16, none, .fad (.tmp 15) 0⟩,
       ⟨some 17, none, .load (.tmp 16) 1 false⟩,
       ⟨some 18, none, .bin .eql .plain (.tmp 17) (.cst (.int .i64 6))⟩])
     (.cond (.tmp 18)
      (.reg [⟨some 19, none, .mv (.tmp 3)⟩,
        ⟨some 20, none, .bin .add .plain (.tmp 19) (.cst (.int .i64 1))⟩,
        ⟨some 3, none, .mv (.tmp 20)⟩])
      (.skip))))
    (.reg [⟨some 10, none, .mv (.tmp 4)⟩,
      ⟨some 11, none, .bin .add .plain (.tmp 10) (.cst (.int .i64 1))⟩,
      ⟨some 4, none, .mv (.tmp 11)⟩]))))))
  (.seq (.reg [⟨some 21, none, .mv (.tmp 3)⟩,
    ⟨some 2, none, .mv (.tmp 21)⟩])
  (.ret))))⟩

theorem tr33 : trF Go.Proofs.Try.prog { obj := [], bare := [], loops := [[1, 3, 4]], draws := [], glob := [], fresh := false } Go.Proofs.Try.f33 = some ir33 := by kernel_rfl

/-- (*privity/gadget.Builder).Less -/
def ir34 : IFn := ⟨21, [.tmp 6 false],
  .seq (.reg [⟨some 6, none, .mv (.cst (.int .i64 0))⟩])
  (.seq (.reg [⟨some 10, none, .mv (.tmp 0)⟩,
    ⟨some 11, none, .mv (.tmp 1)⟩,
    ⟨some 12, none, .mv (.tmp 2)⟩,
    ⟨some 13, none, .mv (.tmp 0)⟩,
    ⟨some 14, none, .call 19 [(.tmp 13), (.cst (.int .u64 0))]⟩,
    ⟨some 15, none, .mv (.tmp 0)⟩,
    ⟨some 16, none, .mkF (.func 58) [(.tmp 15)] []⟩,
    ⟨some 17, none, .call 57 [(.tmp 10), (.tmp 11), (.tmp 12), (.tmp 14), (.tmp 16)]⟩,
    ⟨some 9, none, .mv (.tmp 17)⟩,
    ⟨some 18, none, .ext (.tmp 9) 0⟩,
    ⟨some 19, none, .ext (.tmp 9) 1⟩,
    ⟨some 7, none, .mv (.tmp 18)⟩,
    ⟨some 8, none, .mv (.tmp 19)⟩])
  (.seq (.reg [⟨some 20, none, .mv (.tmp 8)⟩,
    ⟨some 6, none, .mv (.tmp 20)⟩])
  (.ret)))⟩

theorem tr34 : trF Go.Proofs.Try.prog { obj := [], bare := [], loops := [], draws := [], glob := [], fresh := false } Go.Proofs.Try.f34 = some ir34 := by kernel_rfl

/-- (*privity/gadget.Builder).Equal -/
def ir35 : IFn := ⟨21, [.tmp 6 false],
  .seq (.reg [⟨some 6, none, .mv (.cst (.int .i64 0))⟩])
  (.seq (.reg [⟨some 10, none, .mv (.tmp 0)⟩,
    ⟨some 11, none, .mv (.tmp 1)⟩,
    ⟨some 12, none, .mv (.tmp 2)⟩,
    ⟨some 13, none, .mv (.tmp 0)⟩,
    ⟨some 14, none, .call 19 [(.tmp 13), (.cst (.int .u64 1))]⟩,
    ⟨some 15, none, .mv (.tmp 0)⟩,
    ⟨some 16, none, .mkF (.func 59) [(.tmp 15)] []⟩,
    ⟨some 17, none, .call 57 [(.tmp 10), (.tmp 11), (.tmp 12), (.tmp 14), (.tmp 16)]⟩,
    ⟨some 9, none, .mv (.tmp 17)⟩,
    ⟨some 18, none, .ext (.tmp 9) 0⟩,
    ⟨some 19, none, .ext (.tmp 9) 1⟩,
    ⟨some 7, none, .mv (.tmp 18)⟩,
    ⟨some 8, none, .mv (.tmp 19)⟩])
  (.seq (.reg [⟨some 20, none, .mv (.tmp 8)⟩,
    ⟨some 6, none, .mv (.tmp 20)⟩])
  (.ret)))⟩

theorem tr35 : trF Go.Proofs.Try.prog { obj := [], bare := [], loops := [], draws := [], glob := [], fresh := false } Go.Proofs.Try.f35 = some ir35 := by kernel_rfl

/-- (*privity/gadget.Builder).Compose -/
def ir36 : IFn := ⟨33, [.tmp 4 false],
  .seq (.reg [⟨some 4, none, .mv (.cst (.int .i64 0))⟩])
  (.seq (.reg [⟨some 9, none, .mv (.tmp 0)⟩,
    ⟨some 10, none, .call 19 [(.tmp 9), (.cst (.int .u64 0))]⟩,
    ⟨some 5, none, .mv (.tmp 10)⟩,
    ⟨some 6, none, .mv (.cst (.int .u64 1))⟩])
  (.seq (.seq (.reg [⟨some 11, none, .mv (.tmp 1)⟩,
    ⟨some 12, none, .len .i (.tmp 11)⟩,
    ⟨some 13, none, .mv (.cst (.int .i64 0))⟩])
  (.block 0
   (.loop [0, 5, 6, 11, 12, 13]
    (.seq (.reg [⟨some 14, none, .bin .lss .plain (.tmp 13) (.tmp 12)⟩])
    (.seq (.cond (.tmp 14)
     (.skip)
     (.brk 0))
    (.seq (.block 1
     (.seq (.reg [⟨some 15, none, .idxS (.tmp 11) (.tmp 13) 1⟩,
       ⟨some 16, none, .load (.tmp 15) 1 false⟩,
       ⟨some 8, none, .mv (.tmp 16)⟩])
     (.seq (.reg [⟨some 17, none, .mv (.tmp 0)⟩,
       ⟨some 18, none, .mv (.tmp 5)⟩,
       ⟨some 19, none, .mv (.tmp 0)⟩,
       ⟨some 20, none, .mv (.tmp 6)⟩,
       ⟨some 21, none, .mv (.tmp 8)⟩,
       ⟨some 22, none, .call 18 [(.tmp 19), (.tmp 20), (.tmp 21)]⟩,
       ⟨some 23, none, .call 15 [(.tmp 17), (.tmp 18), (.tmp 22)]⟩,
       ⟨some 5, none, .mv (.tmp 23)⟩])
     (.reg [⟨some 24, none, .mv (.tmp 0)⟩,
       ⟨some 25, none, .nilc (.tmp 24)⟩,
       ⟨some 26, none, .fad (.tmp 25) 0⟩,
       ⟨some 27, none, .load (.tmp 26) 1 false⟩,
       ⟨some 28, none, .mv (.tmp 6)⟩,
       ⟨some 29, none, .mv (.tmp 6)⟩,
       ⟨some 30, none, .call 60 [(.tmp 27), (.tmp 28), (.tmp 29)]⟩,
       ⟨some 6, none, .mv (.tmp 30)⟩]))))
    (.reg [⟨some 31, none, .bin .add .plain (.tmp 13) (.cst (.int .i64 1))⟩,
      ⟨some 13, none, .mv (.tmp 31)⟩])))))))
  (.seq (.reg [⟨some 32, none, .mv (.tmp 5)⟩,
    ⟨some 4, none, .mv (.tmp 32)⟩])
  (.ret))))⟩

theorem tr36 : trF Go.Proofs.Try.prog { obj := [], bare := [], loops := [[0, 5, 6, 11, 12, 13]], draws := [], glob := [], fresh := false } Go.Proofs.Try.f36 = some ir36 := by kernel_rfl

/-- privity/privityref02.Less -/
def ir37 : IFn := ⟨32, [.tmp 4 false],
  .seq (.reg [⟨some 4, none, .mv (.cst (.int .u64 0))⟩])
  (.seq (.reg [⟨some 5, none, .mv (.cst (.int .u64 0))⟩])
  (.seq (.seq (.reg [⟨some 6, none, .mv (.cst (.int .i64 0))⟩])
  (.block 0
   (.loop [0, 1, 5, 6]
    (.seq (.seq (.reg [⟨some 9, none, .mv (.tmp 6)⟩,
      ⟨some 10, none, .mv (.tmp 0)⟩,
      ⟨some 11, none, .len .i (.tmp 10)⟩,
      ⟨some 12, none, .bin .lss .plain (.tmp 9) (.tmp 11)⟩,
      ⟨some 13, none, .mv (.tmp 12)⟩,
      ⟨some 14, some (13, false), .mv (.tmp 6)⟩,
      ⟨some 15, some (13, false), .mv (.tmp 1)⟩,
      ⟨some 16, some (13, false), .len .i (.tmp 15)⟩,
      ⟨some 17, some (13, false), .bin .lss .plain (.tmp 14) (.tmp 16)⟩,
      ⟨some 18, none, .pick (.tmp 13) (.cst (.bool true)) (.tmp 17)⟩])
    (.cond (.tmp 18)
     (.skip)
     (.brk 0)))
    (.seq (.block 1
     (.seq (.reg [⟨some 21, none, .mv (.tmp 0)⟩,
       ⟨some 22, none, .mv (.tmp 6)⟩,
       ⟨some 23, none, .call 61 [(.tmp 21), (.tmp 22)]⟩,
       ⟨some 7, none, .mv (.tmp 23)⟩])
     (.seq (.reg [⟨some 24, none, .mv (.tmp 1)⟩,
       ⟨some 25, none, .mv (.tmp 6)⟩,
       ⟨some 26, none, .call 61 [(.tmp 24), (.tmp 25)]⟩,
       ⟨some 8, none, .mv (.tmp 26)⟩])
     (.seq (.reg [⟨some 27, none, .mv (.tmp 7)⟩,
       ⟨some 28, none, .mv (.tmp 8)⟩,
       ⟨some 29, none, .bin .neq .plain (.tmp 27) (.tmp 28)⟩])
     (.cond (.tmp 29)
      (.reg [⟨some 30, none, .mv (.tmp 8)⟩,
        ⟨some 5, none, .mv (.tmp 30)⟩])
      (.skip))))))
    (.reg [⟨some 19, none, .mv (.tmp 6)⟩,
      ⟨some 20, none, .bin .add .plain (.tmp 19) (.cst (.int .i64 1))⟩,
      ⟨some 6, none, .mv (.tmp 20)⟩]))))))
  (.seq (.reg [⟨some 31, none, .mv (.tmp 5)⟩,
    ⟨some 4, none, .mv (.tmp 31)⟩])
  (.ret))))⟩

theorem tr37 : trF Go.Proofs.Try.prog { obj := [], bare := [], loops := [[0, 1, 5, 6]], draws := [], glob := [], fresh := false } Go.Proofs.Try.f37 = some ir37 := by kernel_rfl

/-- privity/privityref02.Equal -/
def ir38 : IFn := ⟨25, [.tmp 4 false],
  .seq (.reg [⟨some 4, none, .mv (.cst (.int .u64 0))⟩])
  (.seq (.seq (.reg [⟨some 5, none, .mv (.cst (.int .i64 0))⟩])
  (.block 0
   (.loop [0, 1, 5]
    (.seq (.seq (.reg [⟨some 6, none, .mv (.tmp 5)⟩,
      ⟨some 7, none, .mv (.tmp 0)⟩,
      ⟨some 8, none, .len .i (.tmp 7)⟩,
      ⟨some 9, none, .bin .lss .plain (.tmp 6) (.tmp 8)⟩,
      ⟨some 10, none, .mv (.tmp 9)⟩,
      ⟨some 11, some (10, false), .mv (.tmp 5)⟩,
      ⟨some 12, some (10, false), .mv (.tmp 1)⟩,
      ⟨some 13, some (10, false), .len .i (.tmp 12)⟩,
      ⟨some 14, some (10, false), .bin .lss .plain (.tmp 11) (.tmp 13)⟩,
      ⟨some 15, none, .pick (.tmp 10) (.cst (.bool true)) (.tmp 14)⟩])
    (.cond (.tmp 15)
     (.skip)
     (.brk 0)))
    (.seq (.block 1
     (.seq (.reg [⟨some 18, none, .mv (.tmp 0)⟩,
       ⟨some 19, none, .mv (.tmp 5)⟩,
       ⟨some 20, none, .call 61 [(.tmp 18), (.tmp 19)]⟩,
       ⟨some 21, none, .mv (.tmp 1)⟩,
       ⟨some 22, none, .mv (.tmp 5)⟩,
       ⟨some 23, none, .call 61 [(.tmp 21), (.tmp 22)]⟩,
       ⟨some 24, none, .bin .neq .plain (.tmp 20) (.tmp 23)⟩])
     (.cond (.tmp 24)
      (.seq (.reg [⟨some 4, none, .mv (.cst (.int .u64 0))⟩])
      (.ret))
      (.skip))))
    (.reg [⟨some 16, none, .mv (.tmp 5)⟩,
      ⟨some 17, none, .bin .add .plain (.tmp 16) (.cst (.int .i64 1))⟩,
      ⟨some 5, none, .mv (.tmp 17)⟩]))))))
  (.seq (.reg [⟨some 4, none, .mv (.cst (.int .u64 1))⟩])
  (.ret)))⟩

theorem tr38 : trF Go.Proofs.Try.prog { obj := [], bare := [], loops := [[0, 1, 5]], draws := [], glob := [], fresh := false } Go.Proofs.Try.f38 = some ir38 := by kernel_rfl

/-- privity/privityref34.Number -/
def ir39 : IFn := ⟨25, [.tmp 4 false],
  .seq (.reg [⟨some 4, none, .mv (.cst (.int .u64 0))⟩])
  (.seq (.reg [⟨some 5, none, .mv (.cst (.int .u64 0))⟩])
  (.seq (.seq (.reg [⟨some 7, none, .mv (.tmp 1)⟩,
    ⟨some 8, none, .len .i (.tmp 7)⟩,
    ⟨some 9, none, .bin .sub .plain (.tmp 8) (.cst (.int .i64 1))⟩,
    ⟨some 6, none, .mv (.tmp 9)⟩])
  (.block 0
   (.loop [0, 1, 5, 6]
    (.seq (.seq (.reg [⟨some 10, none, .mv (.tmp 6)⟩,
      ⟨some 11, none, .bin .geq .plain (.tmp 10) (.cst (.int .i64 0))⟩])
    (.cond (.tmp 11)
     (.skip)
     (.brk 0)))
    (.seq (.block 1
     (.draw [(⟨some 14, none, .mv (.tmp 0)⟩, 0, []),
       (⟨some 15, none, .mv (.tmp 0)⟩, 1, []),
       (⟨some 16, none, .mv (.tmp 5)⟩, 2, []),
       (⟨some 17, none, .mv (.tmp 5)⟩, 3, []),
       (⟨some 19, none, .mv (.tmp 1)⟩, 5, []),
       (⟨some 20, none, .mv (.tmp 6)⟩, 6, []),
       (⟨some 21, none, .idxS (.tmp 19) (.tmp 20) 1⟩, 7, []),
       (⟨some 22, none, .load (.tmp 21) 1 false⟩, 8, []),
       (⟨some 18, none, .call 51 [(.tmp 15), (.tmp 16), (.tmp 17)]⟩, 4, [7]),
       (⟨some 23, none, .call 51 [(.tmp 14), (.tmp 18), (.tmp 22)]⟩, 9, []),
       (⟨some 5, none, .mv (.tmp 23)⟩, 10, [])]))
    (.reg [⟨some 12, none, .mv (.tmp 6)⟩,
      ⟨some 13, none, .bin .sub .plain (.tmp 12) (.cst (.int .i64 1))⟩,
      ⟨some 6, none, .mv (.tmp 13)⟩]))))))
  (.seq (.reg [⟨some 24, none, .mv (.tmp 5)⟩,
    ⟨some 4, none, .mv (.tmp 24)⟩])
  (.ret))))⟩

theorem tr39 : trF Go.Proofs.Try.prog { obj := [], bare := [], loops := [[0, 1, 5, 6]], draws := [(5, ([0, 0, 0, 0, 14, 0, 0, 96, 224, 511, 1023], [(0, []), (1, []), (2, []), (3, []), (5, []), (6, []), (7, []), (8, []), (4, [7]), (9, []), (10, [])]))], glob := [], fresh := false } Go.Proofs.Try.f39 = some ir39 := by kernel_rfl

/-- (*privity/gadget.Builder).AddBits -/
def ir40 : IFn := ⟨24, [.tmp 6 false],
  .seq (.reg [⟨some 6, none, .mv (.cst (.vec [] .full))⟩])
  (.seq (.reg [⟨some 10, none, .mv (.tmp 0)⟩,
    ⟨some 11, none, .mv (.tmp 1)⟩,
    ⟨some 12, none, .mv (.tmp 2)⟩,
    ⟨some 13, none, .mv (.tmp 0)⟩,
    ⟨some 14, none, .call 19 [(.tmp 13), (.cst (.int .u64 0))]⟩,
    ⟨some 15, none, .mv (.tmp 0)⟩,
    ⟨some 16, none, .mkF (.func 62) [(.tmp 15)] []⟩,
    ⟨some 17, none, .call 57 [(.tmp 10), (.tmp 11), (.tmp 12), (.tmp 14), (.tmp 16)]⟩,
    ⟨some 9, none, .mv (.tmp 17)⟩,
    ⟨some 18, none, .ext (.tmp 9) 0⟩,
    ⟨some 19, none, .ext (.tmp 9) 1⟩,
    ⟨some 7, none, .mv (.tmp 18)⟩,
    ⟨some 8, none, .mv (.tmp 19)⟩])
  (.seq (.reg [⟨some 20, none, .mv (.tmp 7)⟩,
    ⟨some 21, none, .mv (.tmp 8)⟩,
    ⟨some 22, none, .bsl 1 1 false [(.int .i64 0)] [(0, 1, (.tmp 21))]⟩,
    ⟨some 23, none, .app (.tmp 20) (.tmp 22) 1 8 false false⟩,
    ⟨some 6, none, .mv (.tmp 23)⟩])
  (.ret)))⟩

theorem tr40 : trF Go.Proofs.Try.prog { obj := [], bare := [], loops := [], draws := [], glob := [], fresh := false } Go.Proofs.Try.f40 = some ir40 := by kernel_rfl

/-- (*privity/gadget.Builder).SubBits -/
def ir41 : IFn := ⟨43, [.tmp 6 false],
  .seq (.reg [⟨some 6, none, .mv (.cst (.vec [] .full))⟩])
  (.seq (.reg [⟨some 13, none, .mv (.tmp 0)⟩,
    ⟨some 14, none, .mv (.tmp 1)⟩,
    ⟨some 15, none, .mv (.tmp 2)⟩,
    ⟨some 16, none, .mv (.tmp 0)⟩,
    ⟨some 17, none, .call 19 [(.tmp 16), (.cst (.int .u64 0))]⟩,
    ⟨some 18, none, .mv (.tmp 0)⟩,
    ⟨some 19, none, .mkF (.func 63) [(.tmp 18)] []⟩,
    ⟨some 20, none, .call 57 [(.tmp 13), (.tmp 14), (.tmp 15), (.tmp 17), (.tmp 19)]⟩,
    ⟨some 12, none, .mv (.tmp 20)⟩,
    ⟨some 21, none, .ext (.tmp 12) 0⟩,
    ⟨some 22, none, .ext (.tmp 12) 1⟩,
    ⟨some 7, none, .mv (.tmp 21)⟩,
    ⟨some 8, none, .mv (.tmp 22)⟩])
  (.seq (.reg [⟨some 23, none, .mv (.tmp 0)⟩,
    ⟨some 24, none, .mv (.tmp 8)⟩,
    ⟨some 25, none, .call 28 [(.tmp 23), (.tmp 24)]⟩,
    ⟨some 9, none, .mv (.tmp 25)⟩])
  (.seq (.reg [⟨some 10, none, .mv (.cst (.vec [] .full))⟩])
  (.seq (.seq (.reg [⟨some 26, none, .mv (.tmp 1)⟩,
    ⟨some 27, none, .len .i (.tmp 26)⟩,
    ⟨some 28, none, .mv (.cst (.int .i64 0))⟩])
  (.block 0
   (.loop [0, 7, 9, 10, 27, 28]
    (.seq (.reg [⟨some 29, none, .bin .lss .plain (.tmp 28) (.tmp 27)⟩])
    (.seq (.cond (.tmp 29)
     (.skip)
     (.brk 0))
    (.seq (.block 1
     (.seq (.reg [⟨some 30, none, .mv (.tmp 28)⟩,
       ⟨some 11, none, .mv (.tmp 30)⟩])
     (.reg [⟨some 31, none, .mv (.tmp 10)⟩,
       ⟨some 32, none, .mv (.tmp 0)⟩,
       ⟨some 33, none, .mv (.tmp 7)⟩,
       ⟨some 34, none, .mv (.tmp 11)⟩,
       ⟨some 35, none, .idxS (.tmp 33) (.tmp 34) 1⟩,
       ⟨some 36, none, .load (.tmp 35) 1 false⟩,
       ⟨some 37, none, .mv (.tmp 9)⟩,
       ⟨some 38, none, .call 17 [(.tmp 32), (.tmp 36), (.tmp 37)]⟩,
       ⟨some 39, none, .bsl 1 1 false [(.int .i64 0)] [(0, 1, (.tmp 38))]⟩,
       ⟨some 40, none, .app (.tmp 31) (.tmp 39) 1 8 false false⟩,
       ⟨some 10, none, .mv (.tmp 40)⟩])))
    (.reg [⟨some 41, none, .bin .add .plain (.tmp 28) (.cst (.int .i64 1))⟩,
      ⟨some 28, none, .mv (.tmp 41)⟩])))))))
  (.seq (.reg [⟨some 42, none, .mv (.tmp 10)⟩,
    ⟨some 6, none, .mv (.tmp 42)⟩])
  (.ret))))))⟩

theorem tr41 : trF Go.Proofs.Try.prog { obj := [], bare := [], loops := [[0, 7, 9, 10, 27, 28]], draws := [], glob := [], fresh := false } Go.Proofs.Try.f41 = some ir41 := by kernel_rfl

/-- (*privity/gadget.Builder).MulBits -/
def ir42 : IFn := ⟨76, [.tmp 6 false],
  .seq (.reg [⟨some 6, none, .mv (.cst (.vec [] .full))⟩])
  (.seq (.reg [⟨some 7, none, .mv (.cst (.vec [] .full))⟩])
  (.seq (.seq (.reg [⟨some 14, none, .mv (.tmp 2)⟩,
    ⟨some 15, none, .len .i (.tmp 14)⟩,
    ⟨some 16, none, .mv (.cst (.int .i64 0))⟩])
  (.block 0
   (.loop [0, 1, 2, 7, 14, 15, 16]
    (.seq (.reg [⟨some 17, none, .bin .lss .plain (.tmp 16) (.tmp 15)⟩])
    (.seq (.cond (.tmp 17)
     (.skip)
     (.brk 0))
    (.seq (.block 1
     (.seq (.reg [⟨some 18, none, .mv (.tmp 16)⟩,
       ⟨some 19, none, .idxS (.tmp 14) (.tmp 16) 1⟩,
       ⟨some 20, none, .load (.tmp 19) 1 false⟩,
       ⟨some 8, none, .mv (.tmp 18)⟩,
       ⟨some 9, none, .mv (.tmp 20)⟩])
     (.seq (.reg [⟨some 10, none, .mv (.cst (.vec [] .full))⟩])
     (.seq (.seq (.reg [⟨some 21, none, .mv (.tmp 1)⟩,
       ⟨some 22, none, .len .i (.tmp 21)⟩,
       ⟨some 23, none, .mv (.cst (.int .i64 0))⟩])
     (.block 2
      (.loop [0, 1, 2, 7, 8, 9, 10, 14, 15, 16, 21, 22, 23]
       (.seq (.reg [⟨some 24, none, .bin .lss .plain (.tmp 23) (.tmp 22)⟩])
       (.seq (.cond (.tmp 24)
        (.skip)
        (.brk 2))
       (.seq (.block 3
        (.seq (.reg [⟨some 25, none, .idxS (.tmp 21) (.tmp 23) 1⟩,
          ⟨some 26, none, .load (.tmp 25) 1 false⟩,
          ⟨some 12, none, .mv (.tmp 26)⟩])
        (.reg [⟨some 27, none, .mv (.tmp 10)⟩,
          ⟨some 28, none, .mv (.tmp 0)⟩,
          ⟨some 29, none, .mv (.tmp 12)⟩,
          ⟨some 30, none, .mv (.tmp 9)⟩,
          ⟨some 31, none, .call 17 [(.tmp 28), (.tmp 29), (.tmp 30)]⟩,
          ⟨some 32, none, .bsl 1 1 false [(.int .i64 0)] [(0, 1, (.tmp 31))]⟩,
          ⟨some 33, none, .app (.tmp 27) (.tmp 32) 1 8 false false⟩,
          ⟨some 10, none, .mv (.tmp 33)⟩])))
       (.reg [⟨some 34, none, .bin .add .plain (.tmp 23) (.cst (.int .i64 1))⟩,
         ⟨some 23, none, .mv (.tmp 34)⟩])))))))
     (.seq (.seq (.reg [⟨some 35, none, .mv (.tmp 8)⟩,
       ⟨some 36, none, .bin .eql .plain (.tmp 35) (.cst (.int .i64 0))⟩])
     (.cond (.tmp 36)
      (.seq (.reg [⟨some 37, none, .mv (.tmp 10)⟩,
        ⟨some 7, none, .mv (.tmp 37)⟩])
      (.brk 1))
      (.skip)))
     (.seq (.block 4
      (.loop [0, 1, 2, 7, 8, 10, 14, 15, 16]
       (.seq (.seq (.reg [⟨some 38, none, .mv (.tmp 7)⟩,
         ⟨some 39, none, .len .i (.tmp 38)⟩,
         ⟨some 40, none, .mv (.tmp 8)⟩,
         ⟨some 41, none, .bin .lss .plain (.tmp 39) (.tmp 40)⟩])
       (.cond (.tmp 41)
        (.skip)
        (.brk 4)))
       (.block 5
        (.reg [⟨some 42, none, .mv (.tmp 7)⟩,
          ⟨some 43, none, .mv (.tmp 0)⟩,
          ⟨some 44, none, .call 19 [(.tmp 43), (.cst (.int .u64 0))]⟩,
          ⟨some 45, none, .bsl 1 1 false [(.int .i64 0)] [(0, 1, (.tmp 44))]⟩,
          ⟨some 46, none, .app (.tmp 42) (.tmp 45) 1 8 false false⟩,
          ⟨some 7, none, .mv (.tmp 46)⟩])))))
     (.draw [(⟨some 47, none, .mv (.tmp 7)⟩, 0, []),
       (⟨some 48, none, .mv (.tmp 8)⟩, 1, []),
       (⟨some 49, none, .slc (.tmp 47) none (some (.tmp 48)) none 1⟩, 2, []),
       (⟨some 51, none, .mv (.tmp 0)⟩, 4, []),
       (⟨some 52, none, .mv (.tmp 7)⟩, 5, []),
       (⟨some 53, none, .mv (.tmp 8)⟩, 6, []),
       (⟨some 54, none, .slc (.tmp 52) (some (.tmp 53)) none none 1⟩, 7, []),
       (⟨some 55, none, .mv (.tmp 10)⟩, 8, []),
       (⟨some 50, none, .call 55 [(.tmp 49)]⟩, 3, []),
       (⟨some 56, none, .call 40 [(.tmp 51), (.tmp 54), (.tmp 55)]⟩, 9, []),
       (⟨some 57, none, .app (.tmp 50) (.tmp 56) 1 8 false false⟩, 10, []),
       (⟨some 7, none, .mv (.tmp 57)⟩, 11, [])])))))))
    (.reg [⟨some 58, none, .bin .add .plain (.tmp 16) (.cst (.int .i64 1))⟩,
      ⟨some 16, none, .mv (.tmp 58)⟩])))))))
  (.seq (.reg [⟨some 59, none, .mv (.tmp 1)⟩,
    ⟨some 60, none, .len .i (.tmp 59)⟩,
    ⟨some 61, none, .mv (.tmp 2)⟩,
    ⟨some 62, none, .len .i (.tmp 61)⟩,
    ⟨some 63, none, .bin .add .plain (.tmp 60) (.tmp 62)⟩,
    ⟨some 13, none, .mv (.tmp 63)⟩])
  (.seq (.block 6
   (.loop [0, 7, 13]
    (.seq (.seq (.reg [⟨some 64, none, .mv (.tmp 7)⟩,
      ⟨some 65, none, .len .i (.tmp 64)⟩,
      ⟨some 66, none, .mv (.tmp 13)⟩,
      ⟨some 67, none, .bin .lss .plain (.tmp 65) (.tmp 66)⟩])
    (.cond (.tmp 67)
     (.skip)
     (.brk 6)))
    (.block 7
     (.reg [⟨some 68, none, .mv (.tmp 7)⟩,
       ⟨some 69, none, .mv (.tmp 0)⟩,
       ⟨some 70, none, .call 19 [(.tmp 69), (.cst (.int .u64 0))]⟩,
       ⟨some 71, none, .bsl 1 1 false [(.int .i64 0)] [(0, 1, (.tmp 70))]⟩,
       ⟨some 72, none, .app (.tmp 68) (.tmp 71) 1 8 false false⟩,
       ⟨some 7, none, .mv (.tmp 72)⟩])))))
  (.seq (.reg [⟨some 73, none, .mv (.tmp 7)⟩,
    ⟨some 74, none, .mv (.tmp 13)⟩,
    ⟨some 75, none, .slc (.tmp 73) none (some (.tmp 74)) none 1⟩,
    ⟨some 6, none, .mv (.tmp 75)⟩])
  (.ret))))))⟩

theorem tr42 : trF Go.Proofs.Try.prog { obj := [], bare := [], loops := [[0, 1, 2, 7, 14, 15, 16], [0, 1, 2, 7, 8, 9, 10, 14, 15, 16, 21, 22, 23], [0, 1, 2, 7, 8, 10, 14, 15, 16], [0, 7, 13]], draws := [(15, ([0, 0, 3, 7, 0, 0, 0, 96, 0, 511, 1023, 2047], [(0, []), (1, []), (2, []), (4, []), (5, []), (6, []), (7, []), (8, []), (3, []), (9, []), (10, []), (11, [])]))], glob := [], fresh := false } Go.Proofs.Try.f42 = some ir42 := by kernel_rfl

/-- privity/privityref34.Lists -/
def ir43 : IFn := ⟨21, [.tmp 6 false],
  .seq (.reg [⟨some 6, none, .mv (.cst (.vec [] .full))⟩])
  (.seq (.seq (.reg [⟨some 7, none, .mv (.tmp 0)⟩])
  (.block 0
   (.seq (.reg [⟨some 9, none, .bin .eql .plain (.tmp 7) (.cst (.int .i64 0))⟩,
     ⟨some 8, none, .mv (.tmp 9)⟩])
   (.cond (.tmp 8)
    (.seq (.reg [⟨some 10, none, .mv (.tmp 1)⟩,
      ⟨some 11, none, .mv (.tmp 2)⟩,
      ⟨some 12, none, .call 64 [(.tmp 10), (.tmp 11)]⟩,
      ⟨some 6, none, .mv (.tmp 12)⟩])
    (.ret))
    (.seq (.reg [⟨some 14, none, .bin .eql .plain (.tmp 7) (.cst (.int .i64 1))⟩,
      ⟨some 13, none, .mv (.tmp 14)⟩])
    (.cond (.tmp 13)
     (.seq (.reg [⟨some 15, none, .mv (.tmp 1)⟩,
       ⟨some 16, none, .mv (.tmp 2)⟩,
       ⟨some 17, none, .call 65 [(.tmp 15), (.tmp 16)]⟩,
       ⟨some 6, none, .mv (.tmp 17)⟩])
     (.ret))
     (.skip)))))))
  (.seq (.reg [⟨some 18, none, .mv (.tmp 1)⟩,
    ⟨some 19, none, .mv (.tmp 2)⟩,
    ⟨some 20, none, .call 66 [(.tmp 18), (.tmp 19)]⟩,
    ⟨some 6, none, .mv (.tmp 20)⟩])
  (.ret)))⟩

theorem tr43 : trF Go.Proofs.Try.prog { obj := [], bare := [], loops := [], draws := [], glob := [], fresh := false } Go.Proofs.Try.f43 = some ir43 := by kernel_rfl

/-- privity/privityref34.Max -/
def ir44 : IFn := ⟨10, [.tmp 4 false],
  .seq (.reg [⟨some 4, none, .mv (.cst (.int .i64 0))⟩])
  (.seq (.seq (.reg [⟨some 5, none, .mv (.tmp 0)⟩,
    ⟨some 6, none, .mv (.tmp 1)⟩,
    ⟨some 7, none, .bin .gtr .plain (.tmp 5) (.tmp 6)⟩])
  (.cond (.tmp 7)
   (.seq (.reg [⟨some 8, none, .mv (.tmp 0)⟩,
     ⟨some 4, none, .mv (.tmp 8)⟩])
   (.ret))
   (.skip)))
  (.seq (.reg [⟨some 9, none, .mv (.tmp 1)⟩,
    ⟨some 4, none, .mv (.tmp 9)⟩])
  (.ret)))⟩

theorem tr44 : trF Go.Proofs.Try.prog { obj := [], bare := [], loops := [], draws := [], glob := [], fresh := false } Go.Proofs.Try.f44 = some ir44 := by kernel_rfl

/-- privity/privitylaw34.single -/
def ir45 : IFn := ⟨157, [.tmp 2 false],
  .seq (.reg [⟨some 2, none, .mv (.cst (.bool false))⟩])
  (.seq (.reg [⟨some 7, none, .mv (.tmp 0)⟩,
    ⟨some 8, none, .call 12 [(.tmp 7)]⟩,
    ⟨some 3, none, .mv (.tmp 8)⟩])
  (.seq (.reg [⟨some 9, none, .mv (.tmp 3)⟩,
    ⟨some 10, none, .call 13 [(.tmp 9), (.cst (.int .i64 1)), (.cst (.bool true))]⟩,
    ⟨some 4, none, .mv (.tmp 10)⟩])
  (.seq (.reg [⟨some 11, none, .mv (.tmp 3)⟩,
    ⟨some 12, none, .call 13 [(.tmp 11), (.cst (.int .i64 1)), (.cst (.bool true))]⟩,
    ⟨some 5, none, .mv (.tmp 12)⟩])
  (.seq (.reg [⟨some 13, none, .mv (.tmp 3)⟩,
    ⟨some 14, none, .call 23 [(.tmp 13)]⟩,
    ⟨some 15, none, .fld (.tmp 14) 1 1 false⟩,
    ⟨some 16, none, .len .i (.tmp 15)⟩,
    ⟨some 17, none, .bsl 1 1 false [(.int .i64 0)] [(0, 1, (.tmp 16))]⟩,
    ⟨some 6, none, .mv (.tmp 17)⟩])
  (.seq (.reg [⟨some 18, none, .mv (.tmp 3)⟩,
    ⟨some 19, none, .mv (.tmp 4)⟩,
    ⟨some 20, none, .call 28 [(.tmp 18), (.tmp 19)]⟩])
  (.seq (.reg [⟨some 21, none, .mv (.tmp 6)⟩,
    ⟨some 22, none, .mv (.tmp 3)⟩,
    ⟨some 23, none, .call 23 [(.tmp 22)]⟩,
    ⟨some 24, none, .fld (.tmp 23) 1 1 false⟩,
    ⟨some 25, none, .len .i (.tmp 24)⟩,
    ⟨some 26, none, .bsl 1 1 false [(.int .i64 0)] [(0, 1, (.tmp 25))]⟩,
    ⟨some 27, none, .app (.tmp 21) (.tmp 26) 1 8 false false⟩,
    ⟨some 6, none, .mv (.tmp 27)⟩])
  (.seq (.reg [⟨some 28, none, .mv (.tmp 3)⟩,
    ⟨some 29, none, .mv (.tmp 4)⟩,
    ⟨some 30, none, .mv (.tmp 5)⟩,
    ⟨some 31, none, .call 29 [(.tmp 28), (.tmp 29), (.tmp 30)]⟩])
  (.seq (.reg [⟨some 32, none, .mv (.tmp 6)⟩,
    ⟨some 33, none, .mv (.tmp 3)⟩,
    ⟨some 34, none, .call 23 [(.tmp 33)]⟩,
    ⟨some 35, none, .fld (.tmp 34) 1 1 false⟩,
    ⟨some 36, none, .len .i (.tmp 35)⟩,
    ⟨some 37, none, .bsl 1 1 false [(.int .i64 0)] [(0, 1, (.tmp 36))]⟩,
    ⟨some 38, none, .app (.tmp 32) (.tmp 37) 1 8 false false⟩,
    ⟨some 6, none, .mv (.tmp 38)⟩])
  (.seq (.reg [⟨some 39, none, .mv (.tmp 3)⟩,
    ⟨some 40, none, .mv (.tmp 4)⟩,
    ⟨some 41, none, .mv (.tmp 5)⟩,
    ⟨some 42, none, .call 30 [(.tmp 39), (.tmp 40), (.tmp 41)]⟩])
  (.seq (.reg [⟨some 43, none, .mv (.tmp 6)⟩,
    ⟨some 44, none, .mv (.tmp 3)⟩,
    ⟨some 45, none, .call 23 [(.tmp 44)]⟩,
    ⟨some 46, none, .fld (.tmp 45) 1 1 false⟩,
    ⟨some 47, none, .len .i (.tmp 46)⟩,
    ⟨some 48, none, .bsl 1 1 false [(.int .i64 0)] [(0, 1, (.tmp 47))]⟩,
    ⟨some 49, none, .app (.tmp 43) (.tmp 48) 1 8 false false⟩,
    ⟨some 6, none, .mv (.tmp 49)⟩])
  (.seq (.reg [⟨some 50, none, .mv (.tmp 3)⟩,
    ⟨some 51, none, .mv (.tmp 4)⟩,
    ⟨some 52, none, .mv (.tmp 5)⟩,
    ⟨some 53, none, .call 31 [(.tmp 50), (.tmp 51), (.tmp 52)]⟩])
  (.seq (.reg [⟨some 54, none, .mv (.tmp 6)⟩,
    ⟨some 55, none, .mv (.tmp 3)⟩,
    ⟨some 56, none, .call 23 [(.tmp 55)]⟩,
    ⟨some 57, none, .fld (.tmp 56) 1 1 false⟩,
    ⟨some 58, none, .len .i (.tmp 57)⟩,
    ⟨some 59, none, .bsl 1 1 false [(.int .i64 0)] [(0, 1, (.tmp 58))]⟩,
    ⟨some 60, none, .app (.tmp 54) (.tmp 59) 1 8 false false⟩,
    ⟨some 6, none, .mv (.tmp 60)⟩])
  (.seq (.reg [⟨some 61, none, .mv (.tmp 3)⟩,
    ⟨some 62, none, .mv (.tmp 4)⟩,
    ⟨some 63, none, .mv (.tmp 5)⟩,
    ⟨some 64, none, .mv (.tmp 4)⟩,
    ⟨some 65, none, .call 32 [(.tmp 61), (.tmp 62), (.tmp 63), (.tmp 64)]⟩])
  (.seq (.reg [⟨some 66, none, .mv (.tmp 6)⟩,
    ⟨some 67, none, .mv (.tmp 3)⟩,
    ⟨some 68, none, .call 23 [(.tmp 67)]⟩,
    ⟨some 69, none, .fld (.tmp 68) 1 1 false⟩,
    ⟨some 70, none, .len .i (.tmp 69)⟩,
    ⟨some 71, none, .bsl 1 1 false [(.int .i64 0)] [(0, 1, (.tmp 70))]⟩,
    ⟨some 72, none, .app (.tmp 66) (.tmp 71) 1 8 false false⟩,
    ⟨some 6, none, .mv (.tmp 72)⟩])
  (.seq (.reg [⟨some 73, none, .mv (.tmp 3)⟩,
    ⟨some 74, none, .mv (.tmp 3)⟩,
    ⟨some 75, none, .mv (.tmp 3)⟩,
    ⟨some 76, none, .mv (.tmp 3)⟩,
    ⟨some 77, none, .mv (.tmp 4)⟩,
    ⟨some 78, none, .mv (.tmp 5)⟩,
    ⟨some 79, none, .call 15 [(.tmp 76), (.tmp 77), (.tmp 78)]⟩,
    ⟨some 80, none, .mv (.tmp 3)⟩,
    ⟨some 81, none, .call 19 [(.tmp 80), (.cst (.int .u64 1))]⟩,
    ⟨some 82, none, .call 16 [(.tmp 75), (.tmp 79), (.tmp 81)]⟩,
    ⟨some 83, none, .mv (.tmp 4)⟩,
    ⟨some 84, none, .call 17 [(.tmp 74), (.tmp 82), (.tmp 83)]⟩,
    ⟨some 85, none, .call 18 [(.tmp 73), (.cst (.int .u64 1)), (.tmp 84)]⟩])
  (.seq (.reg [⟨some 86, none, .mv (.tmp 6)⟩,
    ⟨some 87, none, .mv (.tmp 3)⟩,
    ⟨some 88, none, .call 23 [(.tmp 87)]⟩,
    ⟨some 89, none, .fld (.tmp 88) 1 1 false⟩,
    ⟨some 90, none, .len .i (.tmp 89)⟩,
    ⟨some 91, none, .bsl 1 1 false [(.int .i64 0)] [(0, 1, (.tmp 90))]⟩,
    ⟨some 92, none, .app (.tmp 86) (.tmp 91) 1 8 false false⟩,
    ⟨some 6, none, .mv (.tmp 92)⟩])
  (.seq (.draw [(⟨some 93, none, .mv (.tmp 6)⟩, 0, []),
    (⟨some 94, none, .idxS (.tmp 93) (.cst (.int .i64 0)) 1⟩, 1, []),
    (⟨some 95, none, .load (.tmp 94) 1 false⟩, 2, []),
    (⟨some 96, none, .bin .eql .plain (.tmp 95) (.cst (.int .i64 2))⟩, 3, []),
    (⟨some 97, none, .mv (.tmp 96)⟩, 4, []),
    (⟨some 98, some (97, true), .mv (.tmp 6)⟩, 5, []),
    (⟨some 99, some (97, true), .idxS (.tmp 98) (.cst (.int .i64 1)) 1⟩, 6, []),
    (⟨some 100, some (97, true), .load (.tmp 99) 1 false⟩, 7, []),
    (⟨some 101, some (97, true), .mv (.tmp 6)⟩, 8, []),
    (⟨some 102, some (97, true), .idxS (.tmp 101) (.cst (.int .i64 0)) 1⟩, 9, []),
    (⟨some 103, some (97, true), .load (.tmp 102) 1 false⟩, 10, []),
    (⟨some 104, some (97, true), .bin .sub .plain (.tmp 100) (.tmp 103)⟩, 11, []),
    (⟨some 105, some (97, true), .bin .leq .plain (.tmp 104) (.cst (.int .i64 2))⟩, 12, []),
    (⟨some 106, none, .pick (.tmp 97) (.tmp 105) (.cst (.bool false))⟩, 13, []),
    (⟨some 107, none, .mv (.tmp 106)⟩, 14, []),
    (⟨some 108, some (107, true), .mv (.tmp 6)⟩, 15, []),
    (⟨some 109, some (107, true), .idxS (.tmp 108) (.cst (.int .i64 2)) 1⟩, 16, []),
    (⟨some 110, some (107, true), .load (.tmp 109) 1 false⟩, 17, []),
    (⟨some 111, some (107, true), .mv (.tmp 6)⟩, 18, []),
    (⟨some 112, some (107, true), .idxS (.tmp 111) (.cst (.int .i64 1)) 1⟩, 19, []),
    (⟨some 113, some (107, true), .load (.tmp 112) 1 false⟩, 20, []),
    (⟨some 114, some (107, true), .bin .sub .plain (.tmp 110) (.tmp 113)⟩, 21, []),
    (⟨some 115, some (107, true), .bin .leq .plain (.tmp 114) (.cst (.int .i64 1))⟩, 22, []),
    (⟨some 116, none, .pick (.tmp 107) (.tmp 115) (.cst (.bool false))⟩, 23, []),
    (⟨some 117, none, .mv (.tmp 116)⟩, 24, []),
    (⟨some 118, some (117, true), .mv (.tmp 6)⟩, 25, []),
    (⟨some 119, some (117, true), .idxS (.tmp 118) (.cst (.int .i64 3)) 1⟩, 26, []),
    (⟨some 120, some (117, true), .load (.tmp 119) 1 false⟩, 27, []),
    (⟨some 121, some (117, true), .mv (.tmp 6)⟩, 28, []),
    (⟨some 122, some (117, true), .idxS (.tmp 121) (.cst (.int .i64 2)) 1⟩, 29, []),
    (⟨some 123, some (117, true), .load (.tmp 122) 1 false⟩, 30, []),
    (⟨some 124, some (117, true), .bin .sub .plain (.tmp 120) (.tmp 123)⟩, 31, []),
    (⟨some 125, some (117, true), .bin .leq .plain (.tmp 124) (.cst (.int .i64 3))⟩, 32, []),
    (⟨some 126, none, .pick (.tmp 117) (.tmp 125) (.cst (.bool false))⟩, 33, []),
    (⟨some 127, none, .mv (.tmp 126)⟩, 34, []),
    (⟨some 128, some (127, true), .mv (.tmp 6)⟩, 35, []),
    (⟨some 129, some (127, true), .idxS (.tmp 128) (.cst (.int .i64 4)) 1⟩, 36, []),
    (⟨some 130, some (127, true), .load (.tmp 129) 1 false⟩, 37, []),
    (⟨some 131, some (127, true), .mv (.tmp 6)⟩, 38, []),
    (⟨some 132, some (127, true), .idxS (.tmp 131) (.cst (.int .i64 3)) 1⟩, 39, []),
    (⟨some 133, some (127, true), .load (.tmp 132) 1 false⟩, 40, []),
    (⟨some 134, some (127, true), .bin .sub .plain (.tmp 130) (.tmp 133)⟩, 41, []),
    (⟨some 135, some (127, true), .bin .leq .plain (.tmp 134) (.cst (.int .i64 4))⟩, 42, []),
    (⟨some 136, none, .pick (.tmp 127) (.tmp 135) (.cst (.bool false))⟩, 43, []),
    (⟨some 137, none, .mv (.tmp 136)⟩, 44, []),
    (⟨some 138, some (137, true), .mv (.tmp 6)⟩, 45, []),
    (⟨some 139, some (137, true), .idxS (.tmp 138) (.cst (.int .i64 5)) 1⟩, 46, []),
    (⟨some 140, some (137, true), .load (.tmp 139) 1 false⟩, 47, []),
    (⟨some 141, some (137, true), .mv (.tmp 6)⟩, 48, []),
    (⟨some 142, some (137, true), .idxS (.tmp 141) (.cst (.int .i64 4)) 1⟩, 49, []),
    (⟨some 143, some (137, true), .load (.tmp 142) 1 false⟩, 50, []),
    (⟨some 144, some (137, true), .bin .sub .plain (.tmp 140) (.tmp 143)⟩, 51, []),
    (⟨some 145, some (137, true), .bin .leq .plain (.tmp 144) (.cst (.int .i64 3))⟩, 52, []),
    (⟨some 146, none, .pick (.tmp 137) (.tmp 145) (.cst (.bool false))⟩, 53, []),
    (⟨some 147, none, .mv (.tmp 146)⟩, 54, []),
    (⟨some 148, some (147, true), .mv (.tmp 6)⟩, 55, []),
    (⟨some 149, some (147, true), .idxS (.tmp 148) (.cst (.int .i64 6)) 1⟩, 56, []),
    (⟨some 150, some (147, true), .load (.tmp 149) 1 false⟩, 57, []),
    (⟨some 151, some (147, true), .mv (.tmp 6)⟩, 58, []),
    (⟨some 152, some (147, true), .idxS (.tmp 151) (.cst (.int .i64 5)) 1⟩, 59, []),
    (⟨some 153, some (147, true), .load (.tmp 152) 1 false⟩, 60, []),
    (⟨some 154, some (147, true), .bin .sub .plain (.tmp 150) (.tmp 153)⟩, 61, []),
    (⟨some 155, some (147, true), .bin .eql .plain (.tmp 154) (.cst (.int .i64 5))⟩, 62, []),
    (⟨some 156, none, .pick (.tmp 147) (.tmp 155) (.cst (.bool false))⟩, 63, []),
    (⟨some 2, none, .mv (.tmp 156)⟩, 64, [])])
  (.ret))))))))))))))))))⟩

theorem tr45 : trF Go.Proofs.Try.prog { obj := [], bare := [], loops := [], draws := [(17, ([0, 1, 3, 7, 15, 31, 63, 127, 31, 287, 799, 2047, 4095, 8191, 16383, 32767, 65535, 131071, 32767, 294911, 819199, 2097151, 4194303, 8388607, 16777215, 33554431, 67108863, 134217727, 33554431, 301989887, 838860799, 2147483647, 4294967295, 8589934591, 17179869183, 34359738367, 68719476735, 137438953471, 34359738367, 309237645311, 858993459199, 2199023255551, 4398046511103, 8796093022207, 17592186044415, 35184372088831, 70368744177663, 140737488355327, 35184372088831, 316659348799487, 879609302220799, 2251799813685247, 4503599627370495, 9007199254740991, 18014398509481983, 36028797018963967, 72057594037927935, 144115188075855871, 36028797018963967, 324259173170675711, 900719925474099199, 2305843009213693951, 4611686018427387903, 9223372036854775807, 18446744073709551615], [(0, []), (1, []), (2, []), (3, []), (4, []), (5, []), (6, []), (7, []), (8, []), (9, []), (10, []), (11, []), (12, []), (13, []), (14, []), (15, []), (16, []), (17, []), (18, []), (19, []), (20, []), (21, []), (22, []), (23, []), (24, []), (25, []), (26, []), (27, []), (28, []), (29, []), (30, []), (31, []), (32, []), (33, []), (34, []), (35, []), (36, []), (37, []), (38, []), (39, []), (40, []), (41, []), (42, []), (43, []), (44, []), (45, []), (46, []), (47, []), (48, []), (49, []), (50, []), (51, []), (52, []), (53, []), (54, []), (55, []), (56, []), (57, []), (58, []), (59, []), (60, []), (61, []), (62, []), (63, []), (64, [])]))], glob := [], fresh := false } Go.Proofs.Try.f45 = some ir45 := by kernel_rfl

/-- privity/privitylaw34.cheap -/
def ir46 : IFn := ⟨31, [.tmp 10 false],
  .seq (.reg [⟨some 7, none, .box (.tmp 2) false⟩,
    ⟨some 10, none, .mv (.cst (.bool false))⟩])
  (.seq (.reg [⟨some 14, none, .mv (.tmp 0)⟩,
    ⟨some 15, none, .mv (.tmp 1)⟩,
    ⟨some 16, none, .idxP (.tmp 7) (.cst (.int .i64 0)) 2 1⟩,
    ⟨some 17, none, .load (.tmp 16) 1 false⟩,
    ⟨some 18, none, .idxP (.tmp 7) (.cst (.int .i64 1)) 2 1⟩,
    ⟨some 19, none, .load (.tmp 18) 1 false⟩,
    ⟨some 20, none, .call 67 [(.tmp 14), (.tmp 15), (.tmp 17), (.tmp 19)]⟩,
    ⟨some 13, none, .mv (.tmp 20)⟩,
    ⟨some 21, none, .ext (.tmp 13) 0⟩,
    ⟨some 22, none, .ext (.tmp 13) 1⟩,
    ⟨some 11, none, .mv (.tmp 21)⟩,
    ⟨some 12, none, .mv (.tmp 22)⟩])
  (.seq (.reg [⟨some 23, none, .mv (.tmp 11)⟩,
    ⟨some 24, none, .mv (.tmp 3)⟩,
    ⟨some 25, none, .bin .leq .plain (.tmp 23) (.tmp 24)⟩,
    ⟨some 26, none, .mv (.tmp 25)⟩,
    ⟨some 27, some (26, true), .mv (.tmp 12)⟩,
    ⟨some 28, some (26, true), .mv (.tmp 4)⟩,
    ⟨some 29, some (26, true), .bin .leq .plain (.tmp 27) (.tmp 28)⟩,
    ⟨some 30, none, .pick (.tmp 26) (.tmp 29) (.cst (.bool false))⟩,
    ⟨some 10, none, .mv (.tmp 30)⟩])
  (.ret)))⟩

theorem tr46 : trF Go.Proofs.Try.prog { obj := [], bare := [], loops := [], draws := [], glob := [], fresh := false } Go.Proofs.Try.f46 = some ir46 := by kernel_rfl

/-- privity/privityref33.Evaluate -/
def ir47 : IFn := ⟨38, [.tmp 4 false, .tmp 5 false],
  .seq (.reg [⟨some 2, none, .box (.tmp 0) false⟩,
    ⟨some 4, none, .mv (.cst (.vec [] .full))⟩,
    ⟨some 5, none, .mv (.cst (.int .i64 0))⟩])
  (.seq (.reg [⟨some 11, none, .load (.tmp 2) 3 true⟩,
    ⟨some 12, none, .mv (.tmp 1)⟩,
    ⟨some 13, none, .call 68 [(.tmp 11), (.tmp 12)]⟩,
    ⟨some 10, none, .mv (.tmp 13)⟩,
    ⟨some 14, none, .ext (.tmp 10) 0⟩,
    ⟨some 15, none, .ext (.tmp 10) 1⟩,
    ⟨some 6, none, .mv (.tmp 14)⟩,
    ⟨some 7, none, .mv (.tmp 15)⟩])
  (.seq (.seq (.reg [⟨some 16, none, .mv (.tmp 7)⟩,
    ⟨some 17, none, .bin .neq .plain (.tmp 16) (.cst (.int .i64 0))⟩])
  (.cond (.tmp 17)
   (.seq (.reg [⟨some 18, none, .mv (.tmp 7)⟩,
     ⟨some 4, none, .mv (.cst (.vec [] .full))⟩,
     ⟨some 5, none, .mv (.tmp 18)⟩])
   (.ret))
   (.skip)))
  (.seq (.reg [⟨some 8, none, .mv (.cst (.vec [] .full))⟩])
  (.seq (.seq (.reg [⟨some 9, none, .mv (.cst (.int .i64 0))⟩])
  (.block 0
   (.loop [2, 6, 8, 9]
    (.seq (.seq (.reg [⟨some 19, none, .mv (.tmp 9)⟩,
      ⟨some 20, none, .fad (.tmp 2) 2⟩,
      ⟨some 21, none, .load (.tmp 20) 1 false⟩,
      ⟨some 22, none, .len .i (.tmp 21)⟩,
      ⟨some 23, none, .bin .lss .plain (.tmp 19) (.tmp 22)⟩])
    (.cond (.tmp 23)
     (.skip)
     (.brk 0)))
    (.seq (.block 1
     (.reg [⟨some 26, none, .mv (.tmp 8)⟩,
       ⟨some 27, none, .mv (.tmp 6)⟩,
       ⟨some 28, none, .fad (.tmp 2) 2⟩,
       ⟨some 29, none, .load (.tmp 28) 1 false⟩,
       ⟨some 30, none, .mv (.tmp 9)⟩,
       ⟨some 31, none, .idxS (.tmp 29) (.tmp 30) 1⟩,
       ⟨some 32, none, .load (.tmp 31) 1 false⟩,
       ⟨some 33, none, .idxS (.tmp 27) (.tmp 32) 1⟩,
       ⟨some 34, none, .load (.tmp 33) 1 false⟩,
       ⟨some 35, none, .bsl 1 1 false [(.int .u64 0)] [(0, 1, (.tmp 34))]⟩,
       ⟨some 36, none, .app (.tmp 26) (.tmp 35) 1 8 false false⟩,
       ⟨some 8, none, .mv (.tmp 36)⟩]))
    (.reg [⟨some 24, none, .mv (.tmp 9)⟩,
      ⟨some 25, none, .bin .add .plain (.tmp 24) (.cst (.int .i64 1))⟩,
      ⟨some 9, none, .mv (.tmp 25)⟩]))))))
  (.seq (.reg [⟨some 37, none, .mv (.tmp 8)⟩,
    ⟨some 4, none, .mv (.tmp 37)⟩,
    ⟨some 5, none, .mv (.cst (.int .i64 0))⟩])
  (.ret))))))⟩

theorem tr47 : trF Go.Proofs.Try.prog { obj := [], bare := [], loops := [[2, 6, 8, 9]], draws := [], glob := [], fresh := false } Go.Proofs.Try.f47 = some ir47 := by kernel_rfl

/-- privity/privityref05.Same -/
def ir48 : IFn := ⟨26, [.tmp 4 false],
  .seq (.reg [⟨some 4, none, .mv (.cst (.bool false))⟩])
  (.seq (.seq (.reg [⟨some 6, none, .mv (.tmp 0)⟩,
    ⟨some 7, none, .len .i (.tmp 6)⟩,
    ⟨some 8, none, .mv (.tmp 1)⟩,
    ⟨some 9, none, .len .i (.tmp 8)⟩,
    ⟨some 10, none, .bin .neq .plain (.tmp 7) (.tmp 9)⟩])
  (.cond (.tmp 10)
   (.seq (.reg [⟨some 4, none, .mv (.cst (.bool false))⟩])
   (.ret))
   (.skip)))
  (.seq (.seq (.reg [⟨some 5, none, .mv (.cst (.int .i64 0))⟩])
  (.block 0
   (.loop [0, 1, 5]
    (.seq (.seq (.reg [⟨some 11, none, .mv (.tmp 5)⟩,
      ⟨some 12, none, .mv (.tmp 0)⟩,
      ⟨some 13, none, .len .i (.tmp 12)⟩,
      ⟨some 14, none, .bin .lss .plain (.tmp 11) (.tmp 13)⟩])
    (.cond (.tmp 14)
     (.skip)
     (.brk 0)))
    (.seq (.block 1
     (.seq (.draw [(⟨some 17, none, .mv (.tmp 0)⟩, 0, []),
       (⟨some 18, none, .mv (.tmp 5)⟩, 1, []),
       (⟨some 19, none, .idxS (.tmp 17) (.tmp 18) 1⟩, 2, []),
       (⟨some 20, none, .load (.tmp 19) 1 false⟩, 3, []),
       (⟨some 21, none, .mv (.tmp 1)⟩, 4, []),
       (⟨some 22, none, .mv (.tmp 5)⟩, 5, []),
       (⟨some 23, none, .idxS (.tmp 21) (.tmp 22) 1⟩, 6, []),
       (⟨some 24, none, .load (.tmp 23) 1 false⟩, 7, []),
       (⟨some 25, none, .bin .neq .plain (.tmp 20) (.tmp 24)⟩, 8, [])])
     (.cond (.tmp 25)
      (.seq (.reg [⟨some 4, none, .mv (.cst (.bool false))⟩])
      (.ret))
      (.skip))))
    (.reg [⟨some 15, none, .mv (.tmp 5)⟩,
      ⟨some 16, none, .bin .add .plain (.tmp 15) (.cst (.int .i64 1))⟩,
      ⟨some 5, none, .mv (.tmp 16)⟩]))))))
  (.seq (.reg [⟨some 4, none, .mv (.cst (.bool true))⟩])
  (.ret))))⟩

theorem tr48 : trF Go.Proofs.Try.prog { obj := [], bare := [], loops := [[0, 1, 5]], draws := [(6, ([0, 0, 3, 7, 0, 0, 48, 112, 255], [(0, []), (1, []), (2, []), (3, []), (4, []), (5, []), (6, []), (7, []), (8, [])]))], glob := [], fresh := false } Go.Proofs.Try.f48 = some ir48 := by kernel_rfl

/-- privity/privityref01.Exponent -/
def ir49 : IFn := ⟨25, [.tmp 2 false],
  .seq (.reg [⟨some 2, none, .mv (.cst (.int .i64 0))⟩])
  (.seq (.reg [⟨some 5, none, .call 69 []⟩,
    ⟨some 3, none, .mv (.tmp 5)⟩])
  (.seq (.seq (.reg [⟨some 4, none, .mv (.cst (.int .i64 0))⟩])
  (.block 0
   (.loop [0, 3, 4]
    (.seq (.seq (.reg [⟨some 6, none, .mv (.tmp 4)⟩,
      ⟨some 7, none, .mv (.tmp 3)⟩,
      ⟨some 8, none, .len .i (.tmp 7)⟩,
      ⟨some 9, none, .bin .lss .plain (.tmp 6) (.tmp 8)⟩])
    (.cond (.tmp 9)
     (.skip)
     (.brk 0)))
    (.seq (.block 1
     (.seq (.reg [⟨some 12, none, .mv (.tmp 0)⟩,
       ⟨some 13, none, .mv (.tmp 3)⟩,
       ⟨some 14, none, .mv (.tmp 4)⟩,
       ⟨some 15, none, .idxS (.tmp 13) (.tmp 14) 1⟩,
       ⟨some 16, none, .load (.tmp 15) 1 false⟩,
       ⟨some 17, none, .cvI .u64 (.tmp 16)⟩,
       ⟨some 18, none, .bin .shl .plain (.cst (.int .u64 1)) (.tmp 17)⟩,
       ⟨some 19, none, .bin .sub .plain (.tmp 18) (.cst (.int .u64 1))⟩,
       ⟨some 20, none, .bin .eql .plain (.tmp 12) (.tmp 19)⟩])
     (.cond (.tmp 20)
      (.seq (.reg [⟨some 21, none, .mv (.tmp 3)⟩,
        ⟨some 22, none, .mv (.tmp 4)⟩,
        ⟨some 23, none, .idxS (.tmp 21) (.tmp 22) 1⟩,
        ⟨some 24, none, .load (.tmp 23) 1 false⟩,
        ⟨some 2, none, .mv (.tmp 24)⟩])
      (.ret))
      (.skip))))
    (.reg [⟨some 10, none, .mv (.tmp 4)⟩,
      ⟨some 11, none, .bin .add .plain (.tmp 10) (.cst (.int .i64 1))⟩,
      ⟨some 4, none, .mv (.tmp 11)⟩]))))))
  (.seq (.reg [⟨some 2, none, .mv (.cst (.int .i64 0))⟩])
  (.ret))))⟩

theorem tr49 : trF Go.Proofs.Try.prog { obj := [], bare := [], loops := [[0, 3, 4]], draws := [], glob := [], fresh := false } Go.Proofs.Try.f49 = some ir49 := by kernel_rfl

/-- (*privity/gadget.Builder).gate -/
def ir50 : IFn := ⟨21, [.tmp 4 false],
  .seq (.reg [⟨some 3, none, .box (.tmp 1) false⟩,
    ⟨some 4, none, .mv (.cst (.int .i64 0))⟩])
  (.seq (.draw [(⟨some 5, none, .mv (.tmp 0)⟩, 0, []),
    (⟨some 6, none, .mv (.tmp 0)⟩, 1, []),
    (⟨some 7, none, .nilc (.tmp 6)⟩, 2, []),
    (⟨some 8, none, .fad (.tmp 7) 1⟩, 3, []),
    (⟨some 9, none, .load (.tmp 8) 1 false⟩, 4, []),
    (⟨some 10, none, .load (.tmp 3) 5 true⟩, 5, []),
    (⟨some 11, none, .bsl 1 5 true [(.int .i64 0), (.int .i64 0), (.int .i64 0), (.int .i64 0), (.int .u64 0)] [(0, 5, (.tmp 10))]⟩, 6, []),
    (⟨some 12, none, .app (.tmp 9) (.tmp 11) 5 40 true true⟩, 7, []),
    (⟨some 13, none, .nilc (.tmp 5)⟩, 8, []),
    (⟨some 14, none, .fad (.tmp 13) 1⟩, 9, []),
    (⟨none, none, .store (.tmp 14) (.tmp 12) 1⟩, 10, [])])
  (.seq (.reg [⟨some 15, none, .mv (.tmp 0)⟩,
    ⟨some 16, none, .nilc (.tmp 15)⟩,
    ⟨some 17, none, .fad (.tmp 16) 1⟩,
    ⟨some 18, none, .load (.tmp 17) 1 false⟩,
    ⟨some 19, none, .len .i (.tmp 18)⟩,
    ⟨some 20, none, .bin .sub .plain (.tmp 19) (.cst (.int .i64 1))⟩,
    ⟨some 4, none, .mv (.tmp 20)⟩])
  (.ret)))⟩

theorem tr50 : trF Go.Proofs.Try.prog { obj := [12], bare := [], loops := [], draws := [(1, ([0, 0, 2, 6, 14, 0, 32, 126, 255, 511, 1023], [(0, []), (1, []), (2, []), (3, []), (4, []), (5, []), (6, []), (7, []), (8, []), (9, []), (10, [])]))], glob := [], fresh := false } Go.Proofs.Try.f50 = some ir50 := by kernel_rfl

/-- privity/privityref01.Add -/
def ir51 : IFn := ⟨12, [.tmp 6 false],
  .seq (.reg [⟨some 6, none, .mv (.cst (.int .u64 0))⟩])
  (.seq (.reg [⟨some 7, none, .mv (.tmp 1)⟩,
    ⟨some 8, none, .mv (.tmp 2)⟩,
    ⟨some 9, none, .bin .add .plain (.tmp 7) (.tmp 8)⟩,
    ⟨some 10, none, .mv (.tmp 0)⟩,
    ⟨some 11, none, .bin .rem .plain (.tmp 9) (.tmp 10)⟩,
    ⟨some 6, none, .mv (.tmp 11)⟩])
  (.ret))⟩

theorem tr51 : trF Go.Proofs.Try.prog { obj := [], bare := [], loops := [], draws := [], glob := [], fresh := false } Go.Proofs.Try.f51 = some ir51 := by kernel_rfl

/-- privity/privityref01.Sub -/
def ir52 : IFn := ⟨14, [.tmp 6 false],
  .seq (.reg [⟨some 6, none, .mv (.cst (.int .u64 0))⟩])
  (.seq (.reg [⟨some 7, none, .mv (.tmp 1)⟩,
    ⟨some 8, none, .mv (.tmp 0)⟩,
    ⟨some 9, none, .bin .add .plain (.tmp 7) (.tmp 8)⟩,
    ⟨some 10, none, .mv (.tmp 2)⟩,
    ⟨some 11, none, .bin .sub .plain (.tmp 9) (.tmp 10)⟩,
    ⟨some 12, none, .mv (.tmp 0)⟩,
    ⟨some 13, none, .bin .rem .plain (.tmp 11) (.tmp 12)⟩,
    ⟨some 6, none, .mv (.tmp 13)⟩])
  (.ret))⟩

theorem tr52 : trF Go.Proofs.Try.prog { obj := [], bare := [], loops := [], draws := [], glob := [], fresh := false } Go.Proofs.Try.f52 = some ir52 := by kernel_rfl

/-- privity/privityref32.Valid -/
def ir53 : IFn := ⟨62, [.tmp 2 false],
  .seq (.reg [⟨some 1, none, .box (.tmp 0) false⟩,
    ⟨some 2, none, .mv (.cst (.bool false))⟩])
  (.seq (.seq (.reg [⟨some 5, none, .fad (.tmp 1) 0⟩,
    ⟨some 6, none, .load (.tmp 5) 1 false⟩,
    ⟨some 7, none, .call 11 [(.tmp 6)]⟩,
    ⟨some 8, none, .un .not (.tmp 7)⟩,
    ⟨some 9, none, .mv (.tmp 8)⟩,
    ⟨some 10, some (9, false), .fad (.tmp 1) 1⟩,
    ⟨some 11, some (9, false), .load (.tmp 10) 1 false⟩,
    ⟨some 12, some (9, false), .len .i (.tmp 11)⟩,
    ⟨some 13, some (9, false), .bin .gtr .plain (.tmp 12) (.cst (.int .i64 20000))⟩,
    ⟨some 14, none, .pick (.tmp 9) (.cst (.bool true)) (.tmp 13)⟩,
    ⟨some 15, none, .mv (.tmp 14)⟩,
    ⟨some 16, some (15, false), .fad (.tmp 1) 2⟩,
    ⟨some 17, some (15, false), .load (.tmp 16) 1 false⟩,
    ⟨some 18, some (15, false), .len .i (.tmp 17)⟩,
    ⟨some 19, some (15, false), .bin .gtr .plain (.tmp 18) (.cst (.int .i64 1000))⟩,
    ⟨some 20, none, .pick (.tmp 15) (.cst (.bool true)) (.tmp 19)⟩])
  (.cond (.tmp 20)
   (.seq (.reg [⟨some 2, none, .mv (.cst (.bool false))⟩])
   (.ret))
   (.skip)))
  (.seq (.seq (.reg [⟨some 3, none, .mv (.cst (.int .i64 0))⟩])
  (.block 0
   (.loop [1, 3]
    (.seq (.seq (.reg [⟨some 21, none, .mv (.tmp 3)⟩,
      ⟨some 22, none, .fad (.tmp 1) 1⟩,
      ⟨some 23, none, .load (.tmp 22) 1 false⟩,
      ⟨some 24, none, .len .i (.tmp 23)⟩,
      ⟨some 25, none, .bin .lss .plain (.tmp 21) (.tmp 24)⟩])
    (.cond (.tmp 25)
     (.skip)
     (.brk 0)))
    (.seq (.block 1
     (.seq (.draw [(⟨some 28, none, .fad (.tmp 1) 0⟩, 0, []),
       (⟨some 29, none, .load (.tmp 28) 1 false⟩, 1, []),
       (⟨some 30, none, .mv (.tmp 3)⟩, 2, []),
       (⟨some 31, none, .fad (.tmp 1) 1⟩, 3, []),
       (⟨some 32, none, .load (.tmp 31) 1 false⟩, 4, []),
       (⟨some 33, none, .mv (.tmp 3)⟩, 5, []),
       (⟨some 34, none, .idxS (.tmp 32) (.tmp 33) 5⟩, 6, []),
       (⟨some 35, none, .load (.tmp 34) 5 true⟩, 7, []),
       (⟨some 36, none, .call 70 [(.tmp 29), (.tmp 30), (.tmp 35)]⟩, 8, []),
       (⟨some 37, none, .un .not (.tmp 36)⟩, 9, [])])
     (.cond (.tmp 37)
      (.seq (.reg [⟨some 2, none, .mv (.cst (.bool false))⟩])
      (.ret))
      (.skip))))
    (.reg [⟨some 26, none, .mv (.tmp 3)⟩,
      ⟨some 27, none, .bin .add .plain (.tmp 26) (.cst (.int .i64 1))⟩,
      ⟨some 3, none, .mv (.tmp 27)⟩]))))))
  (.seq (.seq (.reg [⟨some 4, none, .mv (.cst (.int .i64 0))⟩])
  (.block 2
   (.loop [1, 4]
    (.seq (.seq (.reg [⟨some 38, none, .mv (.tmp 4)⟩,
      ⟨some 39, none, .fad (.tmp 1) 2⟩,
      ⟨some 40, none, .load (.tmp 39) 1 false⟩,
      ⟨some 41, none, .len .i (.tmp 40)⟩,
      ⟨some 42, none, .bin .lss .plain (.tmp 38) (.tmp 41)⟩])
    (.cond (.tmp 42)
     (.skip)
     (.brk 2)))
    (.seq (.block 3
     (.seq (.draw [(⟨some 45, none, .fad (.tmp 1) 2⟩, 0, []),
       (⟨some 46, none, .load (.tmp 45) 1 false⟩, 1, []),
       (⟨some 47, none, .mv (.tmp 4)⟩, 2, []),
       (⟨some 48, none, .idxS (.tmp 46) (.tmp 47) 1⟩, 3, []),
       (⟨some 49, none, .load (.tmp 48) 1 false⟩, 4, []),
       (⟨some 50, none, .bin .lss .plain (.tmp 49) (.cst (.int .i64 0))⟩, 5, []),
       (⟨some 51, none, .mv (.tmp 50)⟩, 6, []),
       (⟨some 52, some (51, false), .fad (.tmp 1) 2⟩, 7, []),
       (⟨some 53, some (51, false), .load (.tmp 52) 1 false⟩, 8, []),
       (⟨some 54, some (51, false), .mv (.tmp 4)⟩, 9, []),
       (⟨some 55, some (51, false), .idxS (.tmp 53) (.tmp 54) 1⟩, 10, []),
       (⟨some 56, some (51, false), .load (.tmp 55) 1 false⟩, 11, []),
       (⟨some 57, some (51, false), .fad (.tmp 1) 1⟩, 12, []),
       (⟨some 58, some (51, false), .load (.tmp 57) 1 false⟩, 13, []),
       (⟨some 59, some (51, false), .len .i (.tmp 58)⟩, 14, []),
       (⟨some 60, some (51, false), .bin .geq .plain (.tmp 56) (.tmp 59)⟩, 15, []),
       (⟨some 61, none, .pick (.tmp 51) (.cst (.bool true)) (.tmp 60)⟩, 16, [])])
     (.cond (.tmp 61)
      (.seq (.reg [⟨some 2, none, .mv (.cst (.bool false))⟩])
      (.ret))
      (.skip))))
    (.reg [⟨some 43, none, .mv (.tmp 4)⟩,
      ⟨some 44, none, .bin .add .plain (.tmp 43) (.cst (.int .i64 1))⟩,
      ⟨some 4, none, .mv (.tmp 44)⟩]))))))
  (.seq (.reg [⟨some 2, none, .mv (.cst (.bool true))⟩])
  (.ret)))))⟩

theorem tr53 : trF Go.Proofs.Try.prog { obj := [], bare := [], loops := [[1, 3], [1, 4]], draws := [(6, ([0, 1, 0, 0, 8, 0, 56, 120, 255, 511], [(0, []), (1, []), (2, []), (3, []), (4, []), (5, []), (6, []), (7, []), (8, []), (9, [])])), (11, ([0, 1, 0, 7, 15, 31, 63, 127, 255, 127, 1023, 2047, 127, 4223, 12415, 32767, 65535], [(0, []), (1, []), (2, []), (3, []), (4, []), (5, []), (6, []), (7, []), (8, []), (9, []), (10, []), (11, []), (12, []), (13, []), (14, []), (15, []), (16, [])]))], glob := [], fresh := false } Go.Proofs.Try.f53 = some ir53 := by kernel_rfl

/-- slices.Clone[[]privity/api.Gate,privity/api.Gate] -/
def ir54 : IFn := ⟨8, [.tmp 2 false],
  .seq (.reg [⟨some 2, none, .mv (.cst (.vec [] .full))⟩])
  (.seq (.seq (.reg [⟨some 3, none, .mv (.tmp 0)⟩,
    ⟨some 4, none, .nilS (.tmp 3) false⟩])
  (.cond (.tmp 4)
   (.seq (.reg [⟨some 2, none, .mv (.cst (.vec [] .full))⟩])
   (.ret))
   (.skip)))
  (.seq (.reg [⟨some 5, none, .bsl 0 5 true [(.int .i64 0), (.int .i64 0), (.int .i64 0), (.int .i64 0), (.int .u64 0)] []⟩,
    ⟨some 6, none, .mv (.tmp 0)⟩,
    ⟨some 7, none, .app (.tmp 5) (.tmp 6) 5 40 true false⟩,
    ⟨some 2, none, .mv (.tmp 7)⟩])
  (.ret)))⟩

theorem tr54 : trF Go.Proofs.Try.prog { obj := [], bare := [], loops := [], draws := [], glob := [], fresh := false } Go.Proofs.Try.f54 = some ir54 := by kernel_rfl

/-- slices.Clone[[]int,int] -/
def ir55 : IFn := ⟨8, [.tmp 2 true],
  .seq (.reg [⟨some 2, none, .mv (.cst (.vec [] .full))⟩])
  (.seq (.seq (.reg [⟨some 3, none, .mv (.tmp 0)⟩,
    ⟨some 4, none, .nilS (.tmp 3) false⟩])
  (.cond (.tmp 4)
   (.seq (.reg [⟨some 2, none, .mv (.cst (.vec [] .full))⟩])
   (.ret))
   (.skip)))
  (.seq (.reg [⟨some 5, none, .bsl 0 1 false [(.int .i64 0)] []⟩,
    ⟨some 6, none, .mv (.tmp 0)⟩,
    ⟨some 7, none, .app (.tmp 5) (.tmp 6) 1 8 false false⟩,
    ⟨some 2, none, .mv (.tmp 7)⟩])
  (.ret)))⟩

theorem tr55 : trF Go.Proofs.Try.prog { obj := [], bare := [], loops := [], draws := [], glob := [], fresh := true } Go.Proofs.Try.f55 = some ir55 := by kernel_rfl

/-- (*privity/gadget.Builder).without -/
def ir56 : IFn := ⟨23, [.tmp 8 false],
  .seq (.reg [⟨some 8, none, .mv (.cst (.int .i64 0))⟩])
  (.seq (.draw [(⟨some 9, none, .mv (.tmp 0)⟩, 0, []),
    (⟨some 10, none, .mv (.tmp 0)⟩, 1, []),
    (⟨some 11, none, .mv (.tmp 1)⟩, 2, []),
    (⟨some 12, none, .mv (.tmp 2)⟩, 3, []),
    (⟨some 14, none, .mv (.tmp 0)⟩, 5, []),
    (⟨some 15, none, .mv (.tmp 0)⟩, 6, []),
    (⟨some 16, none, .nilc (.tmp 15)⟩, 7, []),
    (⟨some 17, none, .fad (.tmp 16) 0⟩, 8, []),
    (⟨some 18, none, .load (.tmp 17) 1 false⟩, 9, []),
    (⟨some 20, none, .mv (.tmp 3)⟩, 11, []),
    (⟨some 13, none, .call 15 [(.tmp 10), (.tmp 11), (.tmp 12)]⟩, 4, [8]),
    (⟨some 19, none, .call 71 [(.tmp 18), (.cst (.int .u64 2))]⟩, 10, []),
    (⟨some 21, none, .call 18 [(.tmp 14), (.tmp 19), (.tmp 20)]⟩, 12, []),
    (⟨some 22, none, .call 16 [(.tmp 9), (.tmp 13), (.tmp 21)]⟩, 13, []),
    (⟨some 8, none, .mv (.tmp 22)⟩, 14, [])])
  (.ret))⟩

theorem tr56 : trF Go.Proofs.Try.prog { obj := [], bare := [], loops := [], draws := [(1, ([0, 0, 0, 0, 14, 0, 0, 64, 192, 448, 990, 0, 4094, 8191, 16383], [(0, []), (1, []), (2, []), (3, []), (5, []), (6, []), (7, []), (8, []), (9, []), (11, []), (4, [8]), (10, []), (12, []), (13, []), (14, [])]))], glob := [], fresh := false } Go.Proofs.Try.f56 = some ir56 := by kernel_rfl

/-- (*privity/gadget.Builder).pairs -/
def ir57 : IFn := ⟨47, [.tmp 10 true, .tmp 11 true],
  .seq (.reg [⟨some 5, none, .box (.tmp 0) true⟩,
    ⟨some 10, none, .mv (.cst (.vec [] .full))⟩,
    ⟨some 11, none, .mv (.cst (.int .i64 0))⟩])
  (.seq (.reg [⟨some 12, none, .allocz [(.int .i64 0)] true⟩,
    ⟨none, none, .store (.tmp 12) (.cst (.int .i64 (-1))) 1⟩])
  (.seq (.reg [⟨some 17, none, .mkF (.func 72) [] [(.tmp 12), (.tmp 5)]⟩,
    ⟨some 13, none, .mv (.tmp 17)⟩])
  (.seq (.reg [⟨some 14, none, .mv (.cst (.vec [] .full))⟩])
  (.seq (.seq (.reg [⟨some 18, none, .mv (.tmp 1)⟩,
    ⟨some 19, none, .len .i (.tmp 18)⟩,
    ⟨some 20, none, .mv (.tmp 2)⟩,
    ⟨some 21, none, .len .i (.tmp 20)⟩,
    ⟨some 22, none, .max [(.tmp 19), (.tmp 21)]⟩,
    ⟨some 23, none, .mv (.cst (.int .i64 0))⟩])
  (.block 0
   (.loop [1, 2, 3, 4, 13, 14, 22, 23]
    (.seq (.reg [⟨some 24, none, .bin .lss .plain (.tmp 23) (.tmp 22)⟩])
    (.seq (.cond (.tmp 24)
     (.skip)
     (.brk 0))
    (.seq (.block 1
     (.seq (.reg [⟨some 25, none, .mv (.tmp 23)⟩,
       ⟨some 15, none, .mv (.tmp 25)⟩])
     (.seq (.reg [⟨some 16, none, .mv (.cst (.int .i64 0))⟩])
     (.seq (.reg [⟨some 27, none, .mv (.tmp 4)⟩,
       ⟨some 28, none, .mv (.tmp 13)⟩,
       ⟨some 29, none, .mv (.tmp 1)⟩,
       ⟨some 30, none, .mv (.tmp 15)⟩,
       ⟨some 31, none, .callv (.tmp 28) [(.tmp 29), (.tmp 30)]⟩,
       ⟨some 32, none, .mv (.tmp 13)⟩,
       ⟨some 33, none, .mv (.tmp 2)⟩,
       ⟨some 34, none, .mv (.tmp 15)⟩,
       ⟨some 35, none, .callv (.tmp 32) [(.tmp 33), (.tmp 34)]⟩,
       ⟨some 36, none, .mv (.tmp 3)⟩,
       ⟨some 37, none, .callv (.tmp 27) [(.tmp 31), (.tmp 35), (.tmp 36)]⟩,
       ⟨some 26, none, .mv (.tmp 37)⟩,
       ⟨some 38, none, .ext (.tmp 26) 0⟩,
       ⟨some 39, none, .ext (.tmp 26) 1⟩,
       ⟨some 16, none, .mv (.tmp 38)⟩,
       ⟨some 3, none, .mv (.tmp 39)⟩])
     (.reg [⟨some 40, none, .mv (.tmp 14)⟩,
       ⟨some 41, none, .mv (.tmp 16)⟩,
       ⟨some 42, none, .bsl 1 1 false [(.int .i64 0)] [(0, 1, (.tmp 41))]⟩,
       ⟨some 43, none, .app (.tmp 40) (.tmp 42) 1 8 false false⟩,
       ⟨some 14, none, .mv (.tmp 43)⟩])))))
    (.reg [⟨some 44, none, .bin .add .plain (.tmp 23) (.cst (.int .i64 1))⟩,
      ⟨some 23, none, .mv (.tmp 44)⟩])))))))
  (.seq (.reg [⟨some 45, none, .mv (.tmp 14)⟩,
    ⟨some 46, none, .mv (.tmp 3)⟩,
    ⟨some 10, none, .mv (.tmp 45)⟩,
    ⟨some 11, none, .mv (.tmp 46)⟩])
  (.ret))))))⟩

theorem tr57 : trF Go.Proofs.Try.prog { obj := [5, 12], bare := [], loops := [[1, 2, 3, 4, 13, 14, 22, 23]], draws := [], glob := [], fresh := true } Go.Proofs.Try.f57 = some ir57 := by kernel_rfl

/-- (*privity/gadget.Builder).less -/
def ir58 : IFn := ⟨21, [.tmp 8 false, .tmp 9 false],
  .seq (.reg [⟨some 8, none, .mv (.cst (.int .i64 0))⟩,
    ⟨some 9, none, .mv (.cst (.int .i64 0))⟩])
  (.seq (.reg [⟨some 11, none, .mv (.tmp 0)⟩,
    ⟨some 12, none, .mv (.tmp 1)⟩,
    ⟨some 13, none, .mv (.tmp 2)⟩,
    ⟨some 14, none, .call 31 [(.tmp 11), (.tmp 12), (.tmp 13)]⟩,
    ⟨some 10, none, .mv (.tmp 14)⟩])
  (.seq (.reg [⟨some 15, none, .mv (.tmp 10)⟩,
    ⟨some 16, none, .mv (.tmp 0)⟩,
    ⟨some 17, none, .mv (.tmp 10)⟩,
    ⟨some 18, none, .mv (.tmp 2)⟩,
    ⟨some 19, none, .mv (.tmp 3)⟩,
    ⟨some 20, none, .call 32 [(.tmp 16), (.tmp 17), (.tmp 18), (.tmp 19)]⟩,
    ⟨some 8, none, .mv (.tmp 15)⟩,
    ⟨some 9, none, .mv (.tmp 20)⟩])
  (.ret)))⟩

theorem tr58 : trF Go.Proofs.Try.prog { obj := [], bare := [], loops := [], draws := [], glob := [], fresh := false } Go.Proofs.Try.f58 = some ir58 := by kernel_rfl

/-- (*privity/gadget.Builder).like -/
def ir59 : IFn := ⟨22, [.tmp 8 false, .tmp 9 false],
  .seq (.reg [⟨some 8, none, .mv (.cst (.int .i64 0))⟩,
    ⟨some 9, none, .mv (.cst (.int .i64 0))⟩])
  (.seq (.reg [⟨some 11, none, .mv (.tmp 0)⟩,
    ⟨some 12, none, .mv (.tmp 1)⟩,
    ⟨some 13, none, .mv (.tmp 2)⟩,
    ⟨some 14, none, .call 31 [(.tmp 11), (.tmp 12), (.tmp 13)]⟩,
    ⟨some 10, none, .mv (.tmp 14)⟩])
  (.seq (.reg [⟨some 15, none, .mv (.tmp 10)⟩,
    ⟨some 16, none, .mv (.tmp 0)⟩,
    ⟨some 17, none, .mv (.tmp 3)⟩,
    ⟨some 18, none, .mv (.tmp 0)⟩,
    ⟨some 19, none, .mv (.tmp 10)⟩,
    ⟨some 20, none, .call 28 [(.tmp 18), (.tmp 19)]⟩,
    ⟨some 21, none, .call 17 [(.tmp 16), (.tmp 17), (.tmp 20)]⟩,
    ⟨some 8, none, .mv (.tmp 15)⟩,
    ⟨some 9, none, .mv (.tmp 21)⟩])
  (.ret)))⟩

theorem tr59 : trF Go.Proofs.Try.prog { obj := [], bare := [], loops := [], draws := [], glob := [], fresh := false } Go.Proofs.Try.f59 = some ir59 := by kernel_rfl

/-- privity/field.Add -/
def ir60 : IFn := ⟨12, [.tmp 6 false],
  .seq (.reg [⟨some 6, none, .mv (.cst (.int .u64 0))⟩])
  (.seq (.reg [⟨some 7, none, .mv (.tmp 0)⟩,
    ⟨some 8, none, .mv (.tmp 1)⟩,
    ⟨some 9, none, .mv (.tmp 2)⟩,
    ⟨some 10, none, .bin .add .plain (.tmp 8) (.tmp 9)⟩,
    ⟨some 11, none, .call 73 [(.tmp 7), (.cst (.int .u64 0)), (.tmp 10)]⟩,
    ⟨some 6, none, .mv (.tmp 11)⟩])
  (.ret))⟩

theorem tr60 : trF Go.Proofs.Try.prog { obj := [], bare := [], loops := [], draws := [], glob := [], fresh := false } Go.Proofs.Try.f60 = some ir60 := by kernel_rfl

/-- privity/privityref02.bit -/
def ir61 : IFn := ⟨13, [.tmp 4 false],
  .seq (.reg [⟨some 4, none, .mv (.cst (.int .u64 0))⟩])
  (.seq (.seq (.reg [⟨some 5, none, .mv (.tmp 1)⟩,
    ⟨some 6, none, .mv (.tmp 0)⟩,
    ⟨some 7, none, .len .i (.tmp 6)⟩,
    ⟨some 8, none, .bin .lss .plain (.tmp 5) (.tmp 7)⟩])
  (.cond (.tmp 8)
   (.seq (.reg [⟨some 9, none, .mv (.tmp 0)⟩,
     ⟨some 10, none, .mv (.tmp 1)⟩,
     ⟨some 11, none, .idxS (.tmp 9) (.tmp 10) 1⟩,
     ⟨some 12, none, .load (.tmp 11) 1 false⟩,
     ⟨some 4, none, .mv (.tmp 12)⟩])
   (.ret))
   (.skip)))
  (.seq (.reg [⟨some 4, none, .mv (.cst (.int .u64 0))⟩])
  (.ret)))⟩

theorem tr61 : trF Go.Proofs.Try.prog { obj := [], bare := [], loops := [], draws := [], glob := [], fresh := false } Go.Proofs.Try.f61 = some ir61 := by kernel_rfl

/-- (*privity/gadget.Builder).adder -/
def ir62 : IFn := ⟨35, [.tmp 8 false, .tmp 9 false],
  .seq (.reg [⟨some 8, none, .mv (.cst (.int .i64 0))⟩,
    ⟨some 9, none, .mv (.cst (.int .i64 0))⟩])
  (.seq (.reg [⟨some 13, none, .mv (.tmp 0)⟩,
    ⟨some 14, none, .mv (.tmp 1)⟩,
    ⟨some 15, none, .mv (.tmp 2)⟩,
    ⟨some 16, none, .call 17 [(.tmp 13), (.tmp 14), (.tmp 15)]⟩,
    ⟨some 10, none, .mv (.tmp 16)⟩])
  (.seq (.reg [⟨some 17, none, .mv (.tmp 0)⟩,
    ⟨some 18, none, .mv (.tmp 1)⟩,
    ⟨some 19, none, .mv (.tmp 2)⟩,
    ⟨some 20, none, .mv (.tmp 10)⟩,
    ⟨some 21, none, .call 56 [(.tmp 17), (.tmp 18), (.tmp 19), (.tmp 20)]⟩,
    ⟨some 11, none, .mv (.tmp 21)⟩])
  (.seq (.reg [⟨some 22, none, .mv (.tmp 0)⟩,
    ⟨some 23, none, .mv (.tmp 11)⟩,
    ⟨some 24, none, .mv (.tmp 3)⟩,
    ⟨some 25, none, .call 17 [(.tmp 22), (.tmp 23), (.tmp 24)]⟩,
    ⟨some 12, none, .mv (.tmp 25)⟩])
  (.seq (.reg [⟨some 26, none, .mv (.tmp 0)⟩,
    ⟨some 27, none, .mv (.tmp 11)⟩,
    ⟨some 28, none, .mv (.tmp 3)⟩,
    ⟨some 29, none, .mv (.tmp 12)⟩,
    ⟨some 30, none, .call 56 [(.tmp 26), (.tmp 27), (.tmp 28), (.tmp 29)]⟩,
    ⟨some 31, none, .mv (.tmp 0)⟩,
    ⟨some 32, none, .mv (.tmp 10)⟩,
    ⟨some 33, none, .mv (.tmp 12)⟩,
    ⟨some 34, none, .call 15 [(.tmp 31), (.tmp 32), (.tmp 33)]⟩,
    ⟨some 8, none, .mv (.tmp 30)⟩,
    ⟨some 9, none, .mv (.tmp 34)⟩])
  (.ret)))))⟩

theorem tr62 : trF Go.Proofs.Try.prog { obj := [], bare := [], loops := [], draws := [], glob := [], fresh := false } Go.Proofs.Try.f62 = some ir62 := by kernel_rfl

/-- (*privity/gadget.Builder).taker -/
def ir63 : IFn := ⟨41, [.tmp 8 false, .tmp 9 false],
  .seq (.reg [⟨some 8, none, .mv (.cst (.int .i64 0))⟩,
    ⟨some 9, none, .mv (.cst (.int .i64 0))⟩])
  (.seq (.reg [⟨some 13, none, .mv (.tmp 0)⟩,
    ⟨some 14, none, .mv (.tmp 1)⟩,
    ⟨some 15, none, .mv (.tmp 2)⟩,
    ⟨some 16, none, .call 17 [(.tmp 13), (.tmp 14), (.tmp 15)]⟩,
    ⟨some 10, none, .mv (.tmp 16)⟩])
  (.seq (.reg [⟨some 17, none, .mv (.tmp 0)⟩,
    ⟨some 18, none, .mv (.tmp 1)⟩,
    ⟨some 19, none, .mv (.tmp 2)⟩,
    ⟨some 20, none, .mv (.tmp 10)⟩,
    ⟨some 21, none, .call 56 [(.tmp 17), (.tmp 18), (.tmp 19), (.tmp 20)]⟩,
    ⟨some 11, none, .mv (.tmp 21)⟩])
  (.seq (.reg [⟨some 22, none, .mv (.tmp 0)⟩,
    ⟨some 23, none, .mv (.tmp 11)⟩,
    ⟨some 24, none, .mv (.tmp 3)⟩,
    ⟨some 25, none, .call 17 [(.tmp 22), (.tmp 23), (.tmp 24)]⟩,
    ⟨some 12, none, .mv (.tmp 25)⟩])
  (.seq (.reg [⟨some 26, none, .mv (.tmp 0)⟩,
    ⟨some 27, none, .mv (.tmp 11)⟩,
    ⟨some 28, none, .mv (.tmp 3)⟩,
    ⟨some 29, none, .mv (.tmp 12)⟩,
    ⟨some 30, none, .call 56 [(.tmp 26), (.tmp 27), (.tmp 28), (.tmp 29)]⟩,
    ⟨some 31, none, .mv (.tmp 0)⟩,
    ⟨some 32, none, .mv (.tmp 0)⟩,
    ⟨some 33, none, .mv (.tmp 2)⟩,
    ⟨some 34, none, .mv (.tmp 10)⟩,
    ⟨some 35, none, .call 16 [(.tmp 32), (.tmp 33), (.tmp 34)]⟩,
    ⟨some 36, none, .mv (.tmp 0)⟩,
    ⟨some 37, none, .mv (.tmp 3)⟩,
    ⟨some 38, none, .mv (.tmp 12)⟩,
    ⟨some 39, none, .call 16 [(.tmp 36), (.tmp 37), (.tmp 38)]⟩,
    ⟨some 40, none, .call 15 [(.tmp 31), (.tmp 35), (.tmp 39)]⟩,
    ⟨some 8, none, .mv (.tmp 30)⟩,
    ⟨some 9, none, .mv (.tmp 40)⟩])
  (.ret)))))⟩

theorem tr63 : trF Go.Proofs.Try.prog { obj := [], bare := [], loops := [], draws := [], glob := [], fresh := false } Go.Proofs.Try.f63 = some ir63 := by kernel_rfl

/-- privity/privityref02.Add -/
def ir64 : IFn := ⟨41, [.tmp 4 false],
  .seq (.reg [⟨some 4, none, .mv (.cst (.vec [] .full))⟩])
  (.seq (.reg [⟨some 5, none, .mv (.cst (.vec [] .full))⟩])
  (.seq (.reg [⟨some 6, none, .mv (.cst (.int .u64 0))⟩])
  (.seq (.seq (.reg [⟨some 7, none, .mv (.cst (.int .i64 0))⟩])
  (.block 0
   (.loop [0, 1, 5, 6, 7]
    (.seq (.seq (.reg [⟨some 9, none, .mv (.tmp 7)⟩,
      ⟨some 10, none, .mv (.tmp 0)⟩,
      ⟨some 11, none, .len .i (.tmp 10)⟩,
      ⟨some 12, none, .bin .lss .plain (.tmp 9) (.tmp 11)⟩,
      ⟨some 13, none, .mv (.tmp 12)⟩,
      ⟨some 14, some (13, false), .mv (.tmp 7)⟩,
      ⟨some 15, some (13, false), .mv (.tmp 1)⟩,
      ⟨some 16, some (13, false), .len .i (.tmp 15)⟩,
      ⟨some 17, some (13, false), .bin .lss .plain (.tmp 14) (.tmp 16)⟩,
      ⟨some 18, none, .pick (.tmp 13) (.cst (.bool true)) (.tmp 17)⟩])
    (.cond (.tmp 18)
     (.skip)
     (.brk 0)))
    (.seq (.block 1
     (.seq (.reg [⟨some 21, none, .mv (.tmp 0)⟩,
       ⟨some 22, none, .mv (.tmp 7)⟩,
       ⟨some 23, none, .call 61 [(.tmp 21), (.tmp 22)]⟩,
       ⟨some 24, none, .mv (.tmp 1)⟩,
       ⟨some 25, none, .mv (.tmp 7)⟩,
       ⟨some 26, none, .call 61 [(.tmp 24), (.tmp 25)]⟩,
       ⟨some 27, none, .bin .add .plain (.tmp 23) (.tmp 26)⟩,
       ⟨some 28, none, .mv (.tmp 6)⟩,
       ⟨some 29, none, .bin .add .plain (.tmp 27) (.tmp 28)⟩,
       ⟨some 8, none, .mv (.tmp 29)⟩])
     (.seq (.reg [⟨some 30, none, .mv (.tmp 5)⟩,
       ⟨some 31, none, .mv (.tmp 8)⟩,
       ⟨some 32, none, .bin .rem .plain (.tmp 31) (.cst (.int .u64 2))⟩,
       ⟨some 33, none, .bsl 1 1 false [(.int .u64 0)] [(0, 1, (.tmp 32))]⟩,
       ⟨some 34, none, .app (.tmp 30) (.tmp 33) 1 8 false false⟩,
       ⟨some 5, none, .mv (.tmp 34)⟩])
     (.reg [⟨some 35, none, .mv (.tmp 8)⟩,
       ⟨some 36, none, .bin .quo .plain (.tmp 35) (.cst (.int .u64 2))⟩,
       ⟨some 6, none, .mv (.tmp 36)⟩]))))
    (.reg [⟨some 19, none, .mv (.tmp 7)⟩,
      ⟨some 20, none, .bin .add .plain (.tmp 19) (.cst (.int .i64 1))⟩,
      ⟨some 7, none, .mv (.tmp 20)⟩]))))))
  (.seq (.reg [⟨some 37, none, .mv (.tmp 5)⟩,
    ⟨some 38, none, .mv (.tmp 6)⟩,
    ⟨some 39, none, .bsl 1 1 false [(.int .u64 0)] [(0, 1, (.tmp 38))]⟩,
    ⟨some 40, none, .app (.tmp 37) (.tmp 39) 1 8 false false⟩,
    ⟨some 4, none, .mv (.tmp 40)⟩])
  (.ret)))))⟩

theorem tr64 : trF Go.Proofs.Try.prog { obj := [], bare := [], loops := [[0, 1, 5, 6, 7]], draws := [], glob := [], fresh := false } Go.Proofs.Try.f64 = some ir64 := by kernel_rfl

/-- privity/privityref02.SaturatingSub -/
def ir65 : IFn := ⟨43, [.tmp 4 false],
  .seq (.reg [⟨some 4, none, .mv (.cst (.vec [] .full))⟩])
  (.seq (.reg [⟨some 5, none, .mv (.cst (.vec [] .full))⟩])
  (.seq (.reg [⟨some 10, none, .mv (.tmp 0)⟩,
    ⟨some 11, none, .mv (.tmp 1)⟩,
    ⟨some 12, none, .call 37 [(.tmp 10), (.tmp 11)]⟩,
    ⟨some 13, none, .bin .eql .plain (.tmp 12) (.cst (.int .u64 1))⟩,
    ⟨some 6, none, .mv (.tmp 13)⟩])
  (.seq (.reg [⟨some 7, none, .mv (.cst (.int .u64 0))⟩])
  (.seq (.seq (.reg [⟨some 8, none, .mv (.cst (.int .i64 0))⟩])
  (.block 0
   (.loop [0, 1, 5, 6, 7, 8]
    (.seq (.seq (.reg [⟨some 14, none, .mv (.tmp 8)⟩,
      ⟨some 15, none, .mv (.tmp 0)⟩,
      ⟨some 16, none, .len .i (.tmp 15)⟩,
      ⟨some 17, none, .bin .lss .plain (.tmp 14) (.tmp 16)⟩])
    (.cond (.tmp 17)
     (.skip)
     (.brk 0)))
    (.seq (.block 1
     (.seq (.reg [⟨some 20, none, .mv (.tmp 0)⟩,
       ⟨some 21, none, .mv (.tmp 8)⟩,
       ⟨some 22, none, .call 61 [(.tmp 20), (.tmp 21)]⟩,
       ⟨some 23, none, .bin .add .plain (.cst (.int .u64 2)) (.tmp 22)⟩,
       ⟨some 24, none, .mv (.tmp 1)⟩,
       ⟨some 25, none, .mv (.tmp 8)⟩,
       ⟨some 26, none, .call 61 [(.tmp 24), (.tmp 25)]⟩,
       ⟨some 27, none, .bin .sub .plain (.tmp 23) (.tmp 26)⟩,
       ⟨some 28, none, .mv (.tmp 7)⟩,
       ⟨some 29, none, .bin .sub .plain (.tmp 27) (.tmp 28)⟩,
       ⟨some 9, none, .mv (.tmp 29)⟩])
     (.seq (.reg [⟨some 30, none, .mv (.tmp 9)⟩,
       ⟨some 31, none, .bin .quo .plain (.tmp 30) (.cst (.int .u64 2))⟩,
       ⟨some 32, none, .bin .sub .plain (.cst (.int .u64 1)) (.tmp 31)⟩,
       ⟨some 7, none, .mv (.tmp 32)⟩])
     (.seq (.reg [⟨some 33, none, .mv (.tmp 6)⟩])
     (.cond (.tmp 33)
      (.reg [⟨some 34, none, .mv (.tmp 5)⟩,
        ⟨some 35, none, .bsl 1 1 false [(.int .u64 0)] [(0, 1, (.cst (.int .u64 0)))]⟩,
        ⟨some 36, none, .app (.tmp 34) (.tmp 35) 1 8 false false⟩,
        ⟨some 5, none, .mv (.tmp 36)⟩])
      (.reg [⟨some 37, none, .mv (.tmp 5)⟩,
        ⟨some 38, none, .mv (.tmp 9)⟩,
        ⟨some 39, none, .bin .rem .plain (.tmp 38) (.cst (.int .u64 2))⟩,
        ⟨some 40, none, .bsl 1 1 false [(.int .u64 0)] [(0, 1, (.tmp 39))]⟩,
        ⟨some 41, none, .app (.tmp 37) (.tmp 40) 1 8 false false⟩,
        ⟨some 5, none, .mv (.tmp 41)⟩]))))))
    (.reg [⟨some 18, none, .mv (.tmp 8)⟩,
      ⟨some 19, none, .bin .add .plain (.tmp 18) (.cst (.int .i64 1))⟩,
      ⟨some 8, none, .mv (.tmp 19)⟩]))))))
  (.seq (.reg [⟨some 42, none, .mv (.tmp 5)⟩,
    ⟨some 4, none, .mv (.tmp 42)⟩])
  (.ret))))))⟩

theorem tr65 : trF Go.Proofs.Try.prog { obj := [], bare := [], loops := [[0, 1, 5, 6, 7, 8]], draws := [], glob := [], fresh := false } Go.Proofs.Try.f65 = some ir65 := by kernel_rfl

/-- privity/privityref02.Mul -/
def ir66 : IFn := ⟨57, [.tmp 4 false],
  .seq (.reg [⟨some 4, none, .mv (.cst (.vec [] .full))⟩])
  (.seq (.reg [⟨some 10, none, .mv (.tmp 0)⟩,
    ⟨some 11, none, .len .i (.tmp 10)⟩,
    ⟨some 12, none, .mv (.tmp 1)⟩,
    ⟨some 13, none, .len .i (.tmp 12)⟩,
    ⟨some 14, none, .bin .add .plain (.tmp 11) (.tmp 13)⟩,
    ⟨some 15, none, .mks (.tmp 14) (.tmp 14) 1 8 false [(.int .u64 0)] true⟩,
    ⟨some 5, none, .mv (.tmp 15)⟩])
  (.seq (.seq (.reg [⟨some 6, none, .mv (.cst (.int .i64 0))⟩])
  (.block 0
   (.loop [0, 1, 5, 6]
    (.seq (.seq (.reg [⟨some 16, none, .mv (.tmp 6)⟩,
      ⟨some 17, none, .mv (.tmp 1)⟩,
      ⟨some 18, none, .len .i (.tmp 17)⟩,
      ⟨some 19, none, .bin .lss .plain (.tmp 16) (.tmp 18)⟩])
    (.cond (.tmp 19)
     (.skip)
     (.brk 0)))
    (.seq (.block 1
     (.seq (.seq (.reg [⟨some 22, none, .mv (.tmp 1)⟩,
       ⟨some 23, none, .mv (.tmp 6)⟩,
       ⟨some 24, none, .idxS (.tmp 22) (.tmp 23) 1⟩,
       ⟨some 25, none, .load (.tmp 24) 1 false⟩,
       ⟨some 26, none, .bin .eql .plain (.tmp 25) (.cst (.int .u64 0))⟩])
     (.cond (.tmp 26)
      (.brk 1)
      (.skip)))
     (.seq (.reg [⟨some 7, none, .mv (.cst (.int .u64 0))⟩])
     (.seq (.reg [⟨some 8, none, .mv (.cst (.int .i64 0))⟩])
     (.block 2
      (.loop [0, 1, 5, 6, 7, 8]
       (.seq (.seq (.reg [⟨some 27, none, .mv (.tmp 6)⟩,
         ⟨some 28, none, .mv (.tmp 8)⟩,
         ⟨some 29, none, .bin .add .plain (.tmp 27) (.tmp 28)⟩,
         ⟨some 30, none, .mv (.tmp 5)⟩,
         ⟨some 31, none, .len .i (.tmp 30)⟩,
         ⟨some 32, none, .bin .lss .plain (.tmp 29) (.tmp 31)⟩])
       (.cond (.tmp 32)
        (.skip)
        (.brk 2)))
       (.seq (.block 3
        (.seq (.draw [(⟨some 35, none, .mv (.tmp 5)⟩, 0, []),
          (⟨some 36, none, .mv (.tmp 6)⟩, 1, []),
          (⟨some 37, none, .mv (.tmp 8)⟩, 2, []),
          (⟨some 38, none, .bin .add .plain (.tmp 36) (.tmp 37)⟩, 3, []),
          (⟨some 39, none, .idxS (.tmp 35) (.tmp 38) 1⟩, 4, []),
          (⟨some 40, none, .load (.tmp 39) 1 false⟩, 5, []),
          (⟨some 41, none, .mv (.tmp 0)⟩, 6, []),
          (⟨some 42, none, .mv (.tmp 8)⟩, 7, []),
          (⟨some 45, none, .mv (.tmp 7)⟩, 10, []),
          (⟨some 43, none, .call 61 [(.tmp 41), (.tmp 42)]⟩, 8, [5]),
          (⟨some 44, none, .bin .add .plain (.tmp 40) (.tmp 43)⟩, 9, []),
          (⟨some 46, none, .bin .add .plain (.tmp 44) (.tmp 45)⟩, 11, []),
          (⟨some 9, none, .mv (.tmp 46)⟩, 12, [])])
        (.seq (.reg [⟨some 47, none, .mv (.tmp 5)⟩,
          ⟨some 48, none, .mv (.tmp 6)⟩,
          ⟨some 49, none, .mv (.tmp 8)⟩,
          ⟨some 50, none, .bin .add .plain (.tmp 48) (.tmp 49)⟩,
          ⟨some 51, none, .mv (.tmp 9)⟩,
          ⟨some 52, none, .bin .rem .plain (.tmp 51) (.cst (.int .u64 2))⟩,
          ⟨some 53, none, .idxS (.tmp 47) (.tmp 50) 1⟩,
          ⟨none, none, .store (.tmp 53) (.tmp 52) 1⟩])
        (.reg [⟨some 54, none, .mv (.tmp 9)⟩,
          ⟨some 55, none, .bin .quo .plain (.tmp 54) (.cst (.int .u64 2))⟩,
          ⟨some 7, none, .mv (.tmp 55)⟩]))))
       (.reg [⟨some 33, none, .mv (.tmp 8)⟩,
         ⟨some 34, none, .bin .add .plain (.tmp 33) (.cst (.int .i64 1))⟩,
         ⟨some 8, none, .mv (.tmp 34)⟩])))))))))
    (.reg [⟨some 20, none, .mv (.tmp 6)⟩,
      ⟨some 21, none, .bin .add .plain (.tmp 20) (.cst (.int .i64 1))⟩,
      ⟨some 6, none, .mv (.tmp 21)⟩]))))))
  (.seq (.reg [⟨some 56, none, .mv (.tmp 5)⟩,
    ⟨some 4, none, .mv (.tmp 56)⟩])
  (.ret))))⟩

theorem tr66 : trF Go.Proofs.Try.prog { obj := [15], bare := [], loops := [[0, 1, 5, 6], [0, 1, 5, 6, 7, 8]], draws := [(10, ([0, 0, 0, 6, 15, 31, 0, 0, 192, 511, 0, 2047, 4095], [(0, []), (1, []), (2, []), (3, []), (4, []), (5, []), (6, []), (7, []), (10, []), (8, [5]), (9, []), (11, []), (12, [])]))], glob := [], fresh := false } Go.Proofs.Try.f66 = some ir66 := by kernel_rfl

/-- privity/privitylaw34.costs -/
def ir67 : IFn := ⟨67, [.tmp 8 false, .tmp 9 false],
  .seq (.reg [⟨some 8, none, .mv (.cst (.int .i64 0))⟩,
    ⟨some 9, none, .mv (.cst (.int .i64 0))⟩])
  (.seq (.reg [⟨some 14, none, .mv (.tmp 0)⟩,
    ⟨some 15, none, .call 12 [(.tmp 14)]⟩,
    ⟨some 10, none, .mv (.tmp 15)⟩])
  (.seq (.reg [⟨some 16, none, .mv (.tmp 10)⟩,
    ⟨some 17, none, .mv (.tmp 2)⟩,
    ⟨some 18, none, .call 26 [(.tmp 16), (.cst (.int .i64 1)), (.tmp 17)]⟩,
    ⟨some 11, none, .mv (.tmp 18)⟩])
  (.seq (.reg [⟨some 19, none, .mv (.tmp 10)⟩,
    ⟨some 20, none, .mv (.tmp 3)⟩,
    ⟨some 21, none, .call 26 [(.tmp 19), (.cst (.int .i64 2)), (.tmp 20)]⟩,
    ⟨some 12, none, .mv (.tmp 21)⟩])
  (.seq (.seq (.reg [⟨some 22, none, .mv (.tmp 1)⟩])
  (.block 0
   (.seq (.reg [⟨some 27, none, .bin .eql .plain (.tmp 22) (.cst (.int .i64 0))⟩,
     ⟨some 26, none, .mv (.tmp 27)⟩])
   (.cond (.tmp 26)
    (.reg [⟨some 28, none, .mv (.tmp 10)⟩,
      ⟨some 29, none, .mv (.tmp 11)⟩,
      ⟨some 30, none, .mv (.tmp 12)⟩,
      ⟨some 31, none, .call 40 [(.tmp 28), (.tmp 29), (.tmp 30)]⟩])
    (.seq (.reg [⟨some 33, none, .bin .eql .plain (.tmp 22) (.cst (.int .i64 1))⟩,
      ⟨some 32, none, .mv (.tmp 33)⟩])
    (.cond (.tmp 32)
     (.reg [⟨some 34, none, .mv (.tmp 10)⟩,
       ⟨some 35, none, .mv (.tmp 11)⟩,
       ⟨some 36, none, .mv (.tmp 12)⟩,
       ⟨some 37, none, .call 41 [(.tmp 34), (.tmp 35), (.tmp 36)]⟩])
     (.seq (.reg [⟨some 39, none, .bin .eql .plain (.tmp 22) (.cst (.int .i64 2))⟩,
       ⟨some 38, none, .mv (.tmp 39)⟩])
     (.cond (.tmp 38)
      (.reg [⟨some 40, none, .mv (.tmp 10)⟩,
        ⟨some 41, none, .mv (.tmp 11)⟩,
        ⟨some 42, none, .mv (.tmp 12)⟩,
        ⟨some 43, none, .call 42 [(.tmp 40), (.tmp 41), (.tmp 42)]⟩])
      (.seq (.reg [⟨some 45, none, .bin .eql .plain (.tmp 22) (.cst (.int .i64 3))⟩,
        ⟨some 44, none, .mv (.tmp 45)⟩])
      (.cond (.tmp 44)
       (.reg [⟨some 46, none, .mv (.tmp 10)⟩,
         ⟨some 47, none, .mv (.tmp 11)⟩,
         ⟨some 48, none, .mv (.tmp 12)⟩,
         ⟨some 49, none, .call 34 [(.tmp 46), (.tmp 47), (.tmp 48)]⟩])
       (.seq (.reg [⟨some 51, none, .bin .eql .plain (.tmp 22) (.cst (.int .i64 4))⟩,
         ⟨some 50, none, .mv (.tmp 51)⟩])
       (.cond (.tmp 50)
        (.reg [⟨some 52, none, .mv (.tmp 10)⟩,
          ⟨some 53, none, .mv (.tmp 11)⟩,
          ⟨some 54, none, .mv (.tmp 12)⟩,
          ⟨some 55, none, .call 35 [(.tmp 52), (.tmp 53), (.tmp 54)]⟩])
        (.reg [⟨some 23, none, .mv (.tmp 10)⟩,
          ⟨some 24, none, .mv (.tmp 11)⟩,
          ⟨some 25, none, .call 36 [(.tmp 23), (.tmp 24)]⟩])))))))))))))
  (.seq (.reg [⟨some 56, none, .mv (.tmp 10)⟩,
    ⟨some 57, none, .call 23 [(.tmp 56)]⟩,
    ⟨some 13, none, .allocz [(.int .u64 0), (.vec [] .full), (.vec [] .full)] false⟩,
    ⟨none, none, .store (.tmp 13) (.tmp 57) 3⟩])
  (.seq (.draw [(⟨some 58, none, .load (.tmp 13) 3 true⟩, 0, []),
    (⟨some 60, none, .fad (.tmp 13) 1⟩, 2, []),
    (⟨some 61, none, .load (.tmp 60) 1 false⟩, 3, []),
    (⟨some 62, none, .len .i (.tmp 61)⟩, 4, []),
    (⟨some 63, none, .mv (.tmp 2)⟩, 5, []),
    (⟨some 64, none, .bin .sub .plain (.tmp 62) (.tmp 63)⟩, 6, []),
    (⟨some 65, none, .mv (.tmp 3)⟩, 7, []),
    (⟨some 66, none, .bin .sub .plain (.tmp 64) (.tmp 65)⟩, 8, []),
    (⟨some 59, none, .call 33 [(.tmp 58)]⟩, 1, [2, 3]),
    (⟨some 8, none, .mv (.tmp 59)⟩, 9, []),
    (⟨some 9, none, .mv (.tmp 66)⟩, 10, [])])
  (.ret)))))))⟩

theorem tr67 : trF Go.Proofs.Try.prog { obj := [], bare := [], loops := [], draws := [(17, ([0, 1, 0, 4, 12, 0, 60, 0, 252, 3, 1023], [(0, []), (2, []), (3, []), (4, []), (5, []), (6, []), (7, []), (8, []), (1, [2, 3]), (9, []), (10, [])]))], glob := [], fresh := false } Go.Proofs.Try.f67 = some ir67 := by kernel_rfl

/-- privity/privityref33.EvaluateGates -/
def ir68 : IFn := ⟨129, [.tmp 4 false, .tmp 5 false],
  .seq (.reg [⟨some 2, none, .box (.tmp 0) false⟩,
    ⟨some 4, none, .mv (.cst (.vec [] .full))⟩,
    ⟨some 5, none, .mv (.cst (.int .i64 0))⟩])
  (.seq (.seq (.reg [⟨some 12, none, .load (.tmp 2) 3 true⟩,
    ⟨some 13, none, .call 53 [(.tmp 12)]⟩,
    ⟨some 14, none, .un .not (.tmp 13)⟩,
    ⟨some 15, none, .mv (.tmp 14)⟩,
    ⟨some 16, some (15, false), .load (.tmp 2) 3 true⟩,
    ⟨some 17, some (15, false), .mv (.tmp 1)⟩,
    ⟨some 18, some (15, false), .call 74 [(.tmp 16), (.tmp 17)]⟩,
    ⟨some 19, some (15, false), .un .not (.tmp 18)⟩,
    ⟨some 20, none, .pick (.tmp 15) (.cst (.bool true)) (.tmp 19)⟩])
  (.cond (.tmp 20)
   (.seq (.reg [⟨some 4, none, .mv (.cst (.vec [] .full))⟩,
     ⟨some 5, none, .mv (.cst (.int .i64 1))⟩])
   (.ret))
   (.skip)))
  (.seq (.reg [⟨some 21, none, .load (.tmp 2) 3 true⟩,
    ⟨some 22, none, .mv (.tmp 1)⟩,
    ⟨some 23, none, .call 75 [(.tmp 21), (.tmp 22)]⟩,
    ⟨some 6, none, .mv (.tmp 23)⟩])
  (.seq (.reg [⟨some 24, none, .mv (.tmp 6)⟩,
    ⟨some 25, none, .len .i (.tmp 24)⟩,
    ⟨some 26, none, .mks (.tmp 25) (.tmp 25) 1 8 false [(.int .i64 0)] true⟩,
    ⟨some 7, none, .mv (.tmp 26)⟩])
  (.seq (.reg [⟨some 8, none, .mv (.cst (.vec [] .full))⟩])
  (.seq (.seq (.reg [⟨some 9, none, .mv (.cst (.int .i64 0))⟩])
  (.block 0
   (.loop [2, 6, 7, 8, 9]
    (.seq (.seq (.reg [⟨some 27, none, .mv (.tmp 9)⟩,
      ⟨some 28, none, .fad (.tmp 2) 1⟩,
      ⟨some 29, none, .load (.tmp 28) 1 false⟩,
      ⟨some 30, none, .len .i (.tmp 29)⟩,
      ⟨some 31, none, .bin .lss .plain (.tmp 27) (.tmp 30)⟩])
    (.cond (.tmp 31)
     (.skip)
     (.brk 0)))
    (.seq (.block 1
     (.seq (.reg [⟨some 34, none, .fad (.tmp 2) 1⟩,
       ⟨some 35, none, .load (.tmp 34) 1 false⟩,
       ⟨some 36, none, .mv (.tmp 9)⟩,
       ⟨some 37, none, .idxS (.tmp 35) (.tmp 36) 5⟩,
       ⟨some 38, none, .load (.tmp 37) 5 true⟩,
       ⟨some 10, none, .allocz [(.int .i64 0), (.int .i64 0), (.int .i64 0), (.int .i64 0), (.int .u64 0)] false⟩,
       ⟨none, none, .store (.tmp 10) (.tmp 38) 5⟩])
     (.seq (.reg [⟨some 39, none, .fad (.tmp 10) 4⟩,
       ⟨some 40, none, .load (.tmp 39) 1 false⟩,
       ⟨some 11, none, .mv (.tmp 40)⟩])
     (.seq (.seq (.reg [⟨some 41, none, .fad (.tmp 10) 0⟩,
       ⟨some 42, none, .load (.tmp 41) 1 false⟩])
     (.block 2
      (.seq (.reg [⟨some 44, none, .bin .eql .plain (.tmp 42) (.cst (.int .i64 1))⟩,
        ⟨some 43, none, .mv (.tmp 44)⟩])
      (.cond (.tmp 43)
       (.seq (.draw [(⟨some 45, none, .mv (.tmp 6)⟩, 0, []),
         (⟨some 46, none, .fad (.tmp 10) 1⟩, 1, []),
         (⟨some 47, none, .load (.tmp 46) 1 false⟩, 2, []),
         (⟨some 48, none, .bin .sub .plain (.tmp 47) (.cst (.int .i64 1))⟩, 3, []),
         (⟨some 49, none, .idxS (.tmp 45) (.tmp 48) 1⟩, 4, []),
         (⟨some 50, none, .load (.tmp 49) 1 false⟩, 5, []),
         (⟨some 51, none, .mv (.tmp 7)⟩, 6, []),
         (⟨some 52, none, .fad (.tmp 10) 1⟩, 7, []),
         (⟨some 53, none, .load (.tmp 52) 1 false⟩, 8, []),
         (⟨some 54, none, .bin .sub .plain (.tmp 53) (.cst (.int .i64 1))⟩, 9, []),
         (⟨some 55, none, .idxS (.tmp 51) (.tmp 54) 1⟩, 10, []),
         (⟨some 56, none, .load (.tmp 55) 1 false⟩, 11, []),
         (⟨some 57, none, .idxS (.tmp 50) (.tmp 56) 1⟩, 12, []),
         (⟨some 58, none, .load (.tmp 57) 1 false⟩, 13, []),
         (⟨some 11, none, .mv (.tmp 58)⟩, 14, [])])
       (.reg [⟨some 59, none, .mv (.tmp 7)⟩,
         ⟨some 60, none, .fad (.tmp 10) 1⟩,
         ⟨some 61, none, .load (.tmp 60) 1 false⟩,
         ⟨some 62, none, .bin .sub .plain (.tmp 61) (.cst (.int .i64 1))⟩,
         ⟨some 63, none, .idxS (.tmp 59) (.tmp 62) 1⟩,
         ⟨some 64, none, .load (.tmp 63) 1 false⟩,
         ⟨some 65, none, .bin .add .plain (.tmp 64) (.cst (.int .i64 1))⟩,
         ⟨some 66, none, .idxS (.tmp 59) (.tmp 62) 1⟩,
         ⟨none, none, .store (.tmp 66) (.tmp 65) 1⟩]))
       (.seq (.reg [⟨some 68, none, .bin .eql .plain (.tmp 42) (.cst (.int .i64 3))⟩,
         ⟨some 67, none, .mv (.tmp 68)⟩])
       (.cond (.tmp 67)
        (.draw [(⟨some 69, none, .fad (.tmp 2) 0⟩, 0, []),
          (⟨some 70, none, .load (.tmp 69) 1 false⟩, 1, []),
          (⟨some 71, none, .mv (.tmp 8)⟩, 2, []),
          (⟨some 72, none, .fad (.tmp 10) 2⟩, 3, []),
          (⟨some 73, none, .load (.tmp 72) 1 false⟩, 4, []),
          (⟨some 74, none, .idxS (.tmp 71) (.tmp 73) 1⟩, 5, []),
          (⟨some 75, none, .load (.tmp 74) 1 false⟩, 6, []),
          (⟨some 76, none, .mv (.tmp 8)⟩, 7, []),
          (⟨some 77, none, .fad (.tmp 10) 3⟩, 8, []),
          (⟨some 78, none, .load (.tmp 77) 1 false⟩, 9, []),
          (⟨some 79, none, .idxS (.tmp 76) (.tmp 78) 1⟩, 10, []),
          (⟨some 80, none, .load (.tmp 79) 1 false⟩, 11, []),
          (⟨some 81, none, .call 51 [(.tmp 70), (.tmp 75), (.tmp 80)]⟩, 12, []),
          (⟨some 11, none, .mv (.tmp 81)⟩, 13, [])])
        (.seq (.reg [⟨some 83, none, .bin .eql .plain (.tmp 42) (.cst (.int .i64 4))⟩,
          ⟨some 82, none, .mv (.tmp 83)⟩])
        (.cond (.tmp 82)
         (.draw [(⟨some 84, none, .fad (.tmp 2) 0⟩, 0, []),
           (⟨some 85, none, .load (.tmp 84) 1 false⟩, 1, []),
           (⟨some 86, none, .mv (.tmp 8)⟩, 2, []),
           (⟨some 87, none, .fad (.tmp 10) 2⟩, 3, []),
           (⟨some 88, none, .load (.tmp 87) 1 false⟩, 4, []),
           (⟨some 89, none, .idxS (.tmp 86) (.tmp 88) 1⟩, 5, []),
           (⟨some 90, none, .load (.tmp 89) 1 false⟩, 6, []),
           (⟨some 91, none, .mv (.tmp 8)⟩, 7, []),
           (⟨some 92, none, .fad (.tmp 10) 3⟩, 8, []),
           (⟨some 93, none, .load (.tmp 92) 1 false⟩, 9, []),
           (⟨some 94, none, .idxS (.tmp 91) (.tmp 93) 1⟩, 10, []),
           (⟨some 95, none, .load (.tmp 94) 1 false⟩, 11, []),
           (⟨some 96, none, .call 52 [(.tmp 85), (.tmp 90), (.tmp 95)]⟩, 12, []),
           (⟨some 11, none, .mv (.tmp 96)⟩, 13, [])])
         (.seq (.reg [⟨some 98, none, .bin .eql .plain (.tmp 42) (.cst (.int .i64 5))⟩,
           ⟨some 97, none, .mv (.tmp 98)⟩])
         (.cond (.tmp 97)
          (.draw [(⟨some 99, none, .fad (.tmp 2) 0⟩, 0, []),
            (⟨some 100, none, .load (.tmp 99) 1 false⟩, 1, []),
            (⟨some 101, none, .fad (.tmp 10) 4⟩, 2, []),
            (⟨some 102, none, .load (.tmp 101) 1 false⟩, 3, []),
            (⟨some 103, none, .mv (.tmp 8)⟩, 4, []),
            (⟨some 104, none, .fad (.tmp 10) 2⟩, 5, []),
            (⟨some 105, none, .load (.tmp 104) 1 false⟩, 6, []),
            (⟨some 106, none, .idxS (.tmp 103) (.tmp 105) 1⟩, 7, []),
            (⟨some 107, none, .load (.tmp 106) 1 false⟩, 8, []),
            (⟨some 108, none, .call 21 [(.tmp 100), (.tmp 102), (.tmp 107)]⟩, 9, []),
            (⟨some 11, none, .mv (.tmp 108)⟩, 10, [])])
          (.seq (.reg [⟨some 110, none, .bin .eql .plain (.tmp 42) (.cst (.int .i64 6))⟩,
            ⟨some 109, none, .mv (.tmp 110)⟩])
          (.cond (.tmp 109)
           (.draw [(⟨some 111, none, .fad (.tmp 2) 0⟩, 0, []),
             (⟨some 112, none, .load (.tmp 111) 1 false⟩, 1, []),
             (⟨some 113, none, .mv (.tmp 8)⟩, 2, []),
             (⟨some 114, none, .fad (.tmp 10) 2⟩, 3, []),
             (⟨some 115, none, .load (.tmp 114) 1 false⟩, 4, []),
             (⟨some 116, none, .idxS (.tmp 113) (.tmp 115) 1⟩, 5, []),
             (⟨some 117, none, .load (.tmp 116) 1 false⟩, 6, []),
             (⟨some 118, none, .mv (.tmp 8)⟩, 7, []),
             (⟨some 119, none, .fad (.tmp 10) 3⟩, 8, []),
             (⟨some 120, none, .load (.tmp 119) 1 false⟩, 9, []),
             (⟨some 121, none, .idxS (.tmp 118) (.tmp 120) 1⟩, 10, []),
             (⟨some 122, none, .load (.tmp 121) 1 false⟩, 11, []),
             (⟨some 123, none, .call 21 [(.tmp 112), (.tmp 117), (.tmp 122)]⟩, 12, []),
             (⟨some 11, none, .mv (.tmp 123)⟩, 13, [])])
           (.skip)))))))))))))
     (.reg [⟨some 124, none, .mv (.tmp 8)⟩,
       ⟨some 125, none, .mv (.tmp 11)⟩,
       ⟨some 126, none, .bsl 1 1 false [(.int .u64 0)] [(0, 1, (.tmp 125))]⟩,
       ⟨some 127, none, .app (.tmp 124) (.tmp 126) 1 8 false false⟩,
       ⟨some 8, none, .mv (.tmp 127)⟩])))))
    (.reg [⟨some 32, none, .mv (.tmp 9)⟩,
      ⟨some 33, none, .bin .add .plain (.tmp 32) (.cst (.int .i64 1))⟩,
      ⟨some 9, none, .mv (.tmp 33)⟩]))))))
  (.seq (.reg [⟨some 128, none, .mv (.tmp 8)⟩,
    ⟨some 4, none, .mv (.tmp 128)⟩,
    ⟨some 5, none, .mv (.cst (.int .i64 0))⟩])
  (.ret)))))))⟩

theorem tr68 : trF Go.Proofs.Try.prog { obj := [26], bare := [], loops := [[2, 6, 7, 8, 9]], draws := [(13, ([0, 0, 2, 6, 15, 31, 0, 0, 128, 384, 960, 1984, 4095, 8191, 16383], [(0, []), (1, []), (2, []), (3, []), (4, []), (5, []), (6, []), (7, []), (8, []), (9, []), (10, []), (11, []), (12, []), (13, []), (14, [])])), (16, ([0, 1, 0, 0, 8, 28, 60, 0, 0, 256, 896, 1920, 4095, 8191], [(0, []), (1, []), (2, []), (3, []), (4, []), (5, []), (6, []), (7, []), (8, []), (9, []), (10, []), (11, []), (12, []), (13, [])])), (18, ([0, 1, 0, 0, 8, 28, 60, 0, 0, 256, 896, 1920, 4095, 8191], [(0, []), (1, []), (2, []), (3, []), (4, []), (5, []), (6, []), (7, []), (8, []), (9, []), (10, []), (11, []), (12, []), (13, [])])), (20, ([0, 1, 0, 4, 0, 0, 32, 112, 240, 511, 1023], [(0, []), (1, []), (2, []), (3, []), (4, []), (5, []), (6, []), (7, []), (8, []), (9, []), (10, [])])), (22, ([0, 1, 0, 0, 8, 28, 60, 0, 0, 256, 896, 1920, 4095, 8191], [(0, []), (1, []), (2, []), (3, []), (4, []), (5, []), (6, []), (7, []), (8, []), (9, []), (10, []), (11, []), (12, []), (13, [])]))], glob := [], fresh := false } Go.Proofs.Try.f68 = some ir68 := by kernel_rfl

/-- privity/privityref01.exps -/
def ir69 : IFn := ⟨2, [.tmp 0 false],
  .seq (.reg [⟨some 0, none, .mv (.cst (.vec [] .full))⟩])
  (.seq (.reg [⟨some 1, none, .bsl 7 1 false [(.int .i64 0)] [(0, 1, (.cst (.int .i64 5))), (1, 1, (.cst (.int .i64 7))), (2, 1, (.cst (.int .i64 13))), (3, 1, (.cst (.int .i64 17))), (4, 1, (.cst (.int .i64 19))), (5, 1, (.cst (.int .i64 31))), (6, 1, (.cst (.int .i64 61)))]⟩,
    ⟨some 0, none, .mv (.tmp 1)⟩])
  (.ret))⟩

theorem tr69 : trF Go.Proofs.Try.prog { obj := [], bare := [], loops := [], draws := [], glob := [], fresh := false } Go.Proofs.Try.f69 = some ir69 := by kernel_rfl

/-- privity/privityref32.gate -/
def ir70 : IFn := ⟨116, [.tmp 6 false],
  .seq (.reg [⟨some 5, none, .box (.tmp 2) false⟩,
    ⟨some 6, none, .mv (.cst (.bool false))⟩])
  (.seq (.reg [⟨some 8, none, .fad (.tmp 5) 0⟩,
    ⟨some 9, none, .load (.tmp 8) 1 false⟩,
    ⟨some 10, none, .bld [(.int .i64 0), (.int .i64 0), (.int .i64 0), (.int .i64 0), (.int .u64 0)] [(0, 1, (.tmp 9))]⟩,
    ⟨some 7, none, .allocz [(.int .i64 0), (.int .i64 0), (.int .i64 0), (.int .i64 0), (.int .u64 0)] false⟩,
    ⟨none, none, .store (.tmp 7) (.tmp 10) 5⟩])
  (.seq (.seq (.reg [⟨some 11, none, .fad (.tmp 5) 0⟩,
    ⟨some 12, none, .load (.tmp 11) 1 false⟩])
  (.block 0
   (.seq (.reg [⟨some 14, none, .bin .eql .plain (.tmp 12) (.cst (.int .i64 1))⟩,
     ⟨some 13, none, .mv (.tmp 14)⟩])
   (.cond (.tmp 13)
    (.seq (.draw [(⟨some 15, none, .fad (.tmp 5) 1⟩, 0, []),
      (⟨some 16, none, .load (.tmp 15) 1 false⟩, 1, []),
      (⟨some 17, none, .fad (.tmp 5) 4⟩, 2, []),
      (⟨some 18, none, .load (.tmp 17) 1 false⟩, 3, []),
      (⟨some 19, none, .fad (.tmp 7) 1⟩, 4, []),
      (⟨none, none, .store (.tmp 19) (.tmp 16) 1⟩, 5, [3]),
      (⟨some 20, none, .fad (.tmp 7) 4⟩, 6, []),
      (⟨none, none, .store (.tmp 20) (.tmp 18) 1⟩, 7, [])])
    (.seq (.reg [⟨some 21, none, .load (.tmp 5) 5 true⟩,
      ⟨some 22, none, .load (.tmp 7) 5 true⟩,
      ⟨some 23, none, .bin .eql (.agg [(0, .i), (1, .i), (2, .i), (3, .i), (4, .i)]) (.tmp 21) (.tmp 22)⟩,
      ⟨some 24, none, .mv (.tmp 23)⟩,
      ⟨some 25, some (24, true), .fad (.tmp 5) 1⟩,
      ⟨some 26, some (24, true), .load (.tmp 25) 1 false⟩,
      ⟨some 27, some (24, true), .bin .geq .plain (.tmp 26) (.cst (.int .i64 1))⟩,
      ⟨some 28, none, .pick (.tmp 24) (.tmp 27) (.cst (.bool false))⟩,
      ⟨some 29, none, .mv (.tmp 28)⟩,
      ⟨some 30, some (29, true), .fad (.tmp 5) 1⟩,
      ⟨some 31, some (29, true), .load (.tmp 30) 1 false⟩,
      ⟨some 32, some (29, true), .bin .leq .plain (.tmp 31) (.cst (.int .i64 13))⟩,
      ⟨some 33, none, .pick (.tmp 29) (.tmp 32) (.cst (.bool false))⟩,
      ⟨some 34, none, .mv (.tmp 33)⟩,
      ⟨some 35, some (34, true), .fad (.tmp 5) 4⟩,
      ⟨some 36, some (34, true), .load (.tmp 35) 1 false⟩,
      ⟨some 37, some (34, true), .bin .leq .plain (.tmp 36) (.cst (.int .u64 1))⟩,
      ⟨some 38, none, .pick (.tmp 34) (.tmp 37) (.cst (.bool false))⟩,
      ⟨some 6, none, .mv (.tmp 38)⟩])
    (.ret)))
    (.seq (.reg [⟨some 40, none, .bin .eql .plain (.tmp 12) (.cst (.int .i64 2))⟩,
      ⟨some 39, none, .mv (.tmp 40)⟩])
    (.cond (.tmp 39)
     (.seq (.reg [⟨some 41, none, .fad (.tmp 5) 4⟩,
       ⟨some 42, none, .load (.tmp 41) 1 false⟩,
       ⟨some 43, none, .fad (.tmp 7) 4⟩,
       ⟨none, none, .store (.tmp 43) (.tmp 42) 1⟩])
     (.seq (.reg [⟨some 44, none, .load (.tmp 5) 5 true⟩,
       ⟨some 45, none, .load (.tmp 7) 5 true⟩,
       ⟨some 46, none, .bin .eql (.agg [(0, .i), (1, .i), (2, .i), (3, .i), (4, .i)]) (.tmp 44) (.tmp 45)⟩,
       ⟨some 47, none, .mv (.tmp 46)⟩,
       ⟨some 48, some (47, true), .fad (.tmp 5) 4⟩,
       ⟨some 49, some (47, true), .load (.tmp 48) 1 false⟩,
       ⟨some 50, some (47, true), .mv (.tmp 0)⟩,
       ⟨some 51, some (47, true), .bin .lss .plain (.tmp 49) (.tmp 50)⟩,
       ⟨some 52, none, .pick (.tmp 47) (.tmp 51) (.cst (.bool false))⟩,
       ⟨some 6, none, .mv (.tmp 52)⟩])
     (.ret)))
     (.seq (.reg [⟨some 54, none, .bin .eql .plain (.tmp 12) (.cst (.int .i64 5))⟩,
       ⟨some 53, none, .mv (.tmp 54)⟩])
     (.cond (.tmp 53)
      (.seq (.draw [(⟨some 55, none, .fad (.tmp 5) 4⟩, 0, []),
        (⟨some 56, none, .load (.tmp 55) 1 false⟩, 1, []),
        (⟨some 57, none, .fad (.tmp 5) 2⟩, 2, []),
        (⟨some 58, none, .load (.tmp 57) 1 false⟩, 3, []),
        (⟨some 59, none, .fad (.tmp 7) 4⟩, 4, []),
        (⟨none, none, .store (.tmp 59) (.tmp 56) 1⟩, 5, [3]),
        (⟨some 60, none, .fad (.tmp 7) 2⟩, 6, []),
        (⟨none, none, .store (.tmp 60) (.tmp 58) 1⟩, 7, [])])
      (.seq (.reg [⟨some 61, none, .load (.tmp 5) 5 true⟩,
        ⟨some 62, none, .load (.tmp 7) 5 true⟩,
        ⟨some 63, none, .bin .eql (.agg [(0, .i), (1, .i), (2, .i), (3, .i), (4, .i)]) (.tmp 61) (.tmp 62)⟩,
        ⟨some 64, none, .mv (.tmp 63)⟩,
        ⟨some 65, some (64, true), .fad (.tmp 5) 4⟩,
        ⟨some 66, some (64, true), .load (.tmp 65) 1 false⟩,
        ⟨some 67, some (64, true), .mv (.tmp 0)⟩,
        ⟨some 68, some (64, true), .bin .lss .plain (.tmp 66) (.tmp 67)⟩,
        ⟨some 69, none, .pick (.tmp 64) (.tmp 68) (.cst (.bool false))⟩,
        ⟨some 70, none, .mv (.tmp 69)⟩,
        ⟨some 71, some (70, true), .fad (.tmp 5) 2⟩,
        ⟨some 72, some (70, true), .load (.tmp 71) 1 false⟩,
        ⟨some 73, some (70, true), .bin .geq .plain (.tmp 72) (.cst (.int .i64 0))⟩,
        ⟨some 74, none, .pick (.tmp 70) (.tmp 73) (.cst (.bool false))⟩,
        ⟨some 75, none, .mv (.tmp 74)⟩,
        ⟨some 76, some (75, true), .fad (.tmp 5) 2⟩,
        ⟨some 77, some (75, true), .load (.tmp 76) 1 false⟩,
        ⟨some 78, some (75, true), .mv (.tmp 1)⟩,
        ⟨some 79, some (75, true), .bin .lss .plain (.tmp 77) (.tmp 78)⟩,
        ⟨some 80, none, .pick (.tmp 75) (.tmp 79) (.cst (.bool false))⟩,
        ⟨some 6, none, .mv (.tmp 80)⟩])
      (.ret)))
      (.seq (.seq (.reg [⟨some 82, none, .bin .eql .plain (.tmp 12) (.cst (.int .i64 3))⟩,
        ⟨some 81, none, .mv (.tmp 82)⟩])
      (.cond (.tmp 81)
       (.skip)
       (.seq (.reg [⟨some 83, none, .bin .eql .plain (.tmp 12) (.cst (.int .i64 4))⟩,
         ⟨some 81, none, .mv (.tmp 83)⟩])
       (.cond (.tmp 81)
        (.skip)
        (.reg [⟨some 84, none, .bin .eql .plain (.tmp 12) (.cst (.int .i64 6))⟩,
          ⟨some 81, none, .mv (.tmp 84)⟩])))))
      (.cond (.tmp 81)
       (.seq (.draw [(⟨some 85, none, .fad (.tmp 5) 2⟩, 0, []),
         (⟨some 86, none, .load (.tmp 85) 1 false⟩, 1, []),
         (⟨some 87, none, .fad (.tmp 5) 3⟩, 2, []),
         (⟨some 88, none, .load (.tmp 87) 1 false⟩, 3, []),
         (⟨some 89, none, .fad (.tmp 7) 2⟩, 4, []),
         (⟨none, none, .store (.tmp 89) (.tmp 86) 1⟩, 5, [3]),
         (⟨some 90, none, .fad (.tmp 7) 3⟩, 6, []),
         (⟨none, none, .store (.tmp 90) (.tmp 88) 1⟩, 7, [])])
       (.seq (.reg [⟨some 91, none, .load (.tmp 5) 5 true⟩,
         ⟨some 92, none, .load (.tmp 7) 5 true⟩,
         ⟨some 93, none, .bin .eql (.agg [(0, .i), (1, .i), (2, .i), (3, .i), (4, .i)]) (.tmp 91) (.tmp 92)⟩,
         ⟨some 94, none, .mv (.tmp 93)⟩,
         ⟨some 95, some (94, true), .fad (.tmp 5) 2⟩,
         ⟨some 96, some (94, true), .load (.tmp 95) 1 false⟩,
         ⟨some 97, some (94, true), .bin .geq .plain (.tmp 96) (.cst (.int .i64 0))⟩,
         ⟨some 98, none, .pick (.tmp 94) (.tmp 97) (.cst (.bool false))⟩,
         ⟨some 99, none, .mv (.tmp 98)⟩,
         ⟨some 100, some (99, true), .fad (.tmp 5) 2⟩,
         ⟨some 101, some (99, true), .load (.tmp 100) 1 false⟩,
         ⟨some 102, some (99, true), .mv (.tmp 1)⟩,
         ⟨some 103, some (99, true), .bin .lss .plain (.tmp 101) (.tmp 102)⟩,
         ⟨some 104, none, .pick (.tmp 99) (.tmp 103) (.cst (.bool false))⟩,
         ⟨some 105, none, .mv (.tmp 104)⟩,
         ⟨some 106, some (105, true), .fad (.tmp 5) 3⟩,
         ⟨some 107, some (105, true), .load (.tmp 106) 1 false⟩,
         ⟨some 108, some (105, true), .bin .geq .plain (.tmp 107) (.cst (.int .i64 0))⟩,
         ⟨some 109, none, .pick (.tmp 105) (.tmp 108) (.cst (.bool false))⟩,
         ⟨some 110, none, .mv (.tmp 109)⟩,
         ⟨some 111, some (110, true), .fad (.tmp 5) 3⟩,
         ⟨some 112, some (110, true), .load (.tmp 111) 1 false⟩,
         ⟨some 113, some (110, true), .mv (.tmp 1)⟩,
         ⟨some 114, some (110, true), .bin .lss .plain (.tmp 112) (.tmp 113)⟩,
         ⟨some 115, none, .pick (.tmp 110) (.tmp 114) (.cst (.bool false))⟩,
         ⟨some 6, none, .mv (.tmp 115)⟩])
       (.ret)))
       (.skip)))))))))))
  (.seq (.reg [⟨some 6, none, .mv (.cst (.bool false))⟩])
  (.ret))))⟩

theorem tr70 : trF Go.Proofs.Try.prog { obj := [], bare := [], loops := [], draws := [(4, ([0, 1, 0, 4, 3, 19, 63, 127], [(0, []), (1, []), (2, []), (3, []), (4, []), (5, [3]), (6, []), (7, [])])), (10, ([0, 1, 0, 4, 3, 19, 63, 127], [(0, []), (1, []), (2, []), (3, []), (4, []), (5, [3]), (6, []), (7, [])])), (15, ([0, 1, 0, 4, 3, 19, 63, 127], [(0, []), (1, []), (2, []), (3, []), (4, []), (5, [3]), (6, []), (7, [])]))], glob := [], fresh := false } Go.Proofs.Try.f70 = some ir70 := by kernel_rfl

/-- privity/field.Reduce -/
def ir71 : IFn := ⟨8, [.tmp 4 false],
  .seq (.reg [⟨some 4, none, .mv (.cst (.int .u64 0))⟩])
  (.seq (.reg [⟨some 5, none, .mv (.tmp 0)⟩,
    ⟨some 6, none, .mv (.tmp 1)⟩,
    ⟨some 7, none, .call 73 [(.tmp 5), (.cst (.int .u64 0)), (.tmp 6)]⟩,
    ⟨some 4, none, .mv (.tmp 7)⟩])
  (.ret))⟩

theorem tr71 : trF Go.Proofs.Try.prog { obj := [], bare := [], loops := [], draws := [], glob := [], fresh := false } Go.Proofs.Try.f71 = some ir71 := by kernel_rfl

/-- (*privity/gadget.Builder).pairs$1 -/
def ir72 : IFn := ⟨20, [.tmp 6 false],
  .seq (.reg [⟨some 6, none, .mv (.cst (.int .i64 0))⟩])
  (.seq (.seq (.reg [⟨some 7, none, .mv (.tmp 1)⟩,
    ⟨some 8, none, .mv (.tmp 0)⟩,
    ⟨some 9, none, .len .i (.tmp 8)⟩,
    ⟨some 10, none, .bin .lss .plain (.tmp 7) (.tmp 9)⟩])
  (.cond (.tmp 10)
   (.seq (.reg [⟨some 11, none, .mv (.tmp 0)⟩,
     ⟨some 12, none, .mv (.tmp 1)⟩,
     ⟨some 13, none, .idxS (.tmp 11) (.tmp 12) 1⟩,
     ⟨some 14, none, .load (.tmp 13) 1 false⟩,
     ⟨some 6, none, .mv (.tmp 14)⟩])
   (.ret))
   (.skip)))
  (.seq (.seq (.reg [⟨some 15, none, .load (.tmp 2) 1 false⟩,
    ⟨some 16, none, .bin .lss .plain (.tmp 15) (.cst (.int .i64 0))⟩])
  (.cond (.tmp 16)
   (.reg [⟨some 17, none, .load (.tmp 3) 1 false⟩,
     ⟨some 18, none, .call 19 [(.tmp 17), (.cst (.int .u64 0))]⟩,
     ⟨none, none, .store (.tmp 2) (.tmp 18) 1⟩])
   (.skip)))
  (.seq (.reg [⟨some 19, none, .load (.tmp 2) 1 false⟩,
    ⟨some 6, none, .mv (.tmp 19)⟩])
  (.ret))))⟩

theorem tr72 : trF Go.Proofs.Try.prog { obj := [], bare := [], loops := [], draws := [], glob := [], fresh := false } Go.Proofs.Try.f72 = some ir72 := by kernel_rfl

/-- privity/field.fold -/
def ir73 : IFn := ⟨48, [.tmp 6 false],
  .seq (.reg [⟨some 6, none, .mv (.cst (.int .u64 0))⟩])
  (.seq (.reg [⟨some 11, none, .mv (.tmp 0)⟩,
    ⟨some 12, none, .call 76 [(.tmp 11)]⟩,
    ⟨some 7, none, .mv (.tmp 12)⟩])
  (.seq (.block 0
   (.loop [0, 1, 2, 7]
    (.seq (.seq (.reg [⟨some 13, none, .mv (.tmp 1)⟩,
      ⟨some 14, none, .bin .neq .plain (.tmp 13) (.cst (.int .u64 0))⟩,
      ⟨some 15, none, .mv (.tmp 14)⟩,
      ⟨some 16, some (15, false), .mv (.tmp 2)⟩,
      ⟨some 17, some (15, false), .mv (.tmp 0)⟩,
      ⟨some 18, some (15, false), .bin .gtr .plain (.tmp 16) (.tmp 17)⟩,
      ⟨some 19, none, .pick (.tmp 15) (.cst (.bool true)) (.tmp 18)⟩])
    (.cond (.tmp 19)
     (.skip)
     (.brk 0)))
    (.block 1
     (.seq (.reg [⟨some 20, none, .mv (.tmp 2)⟩,
       ⟨some 21, none, .mv (.tmp 0)⟩,
       ⟨some 22, none, .bin .and .plain (.tmp 20) (.tmp 21)⟩,
       ⟨some 8, none, .mv (.tmp 22)⟩])
     (.seq (.reg [⟨some 23, none, .mv (.tmp 2)⟩,
       ⟨some 24, none, .mv (.tmp 7)⟩,
       ⟨some 25, none, .bin .shr .plain (.tmp 23) (.tmp 24)⟩,
       ⟨some 26, none, .mv (.tmp 1)⟩,
       ⟨some 27, none, .mv (.tmp 7)⟩,
       ⟨some 28, none, .bin .sub .plain (.cst (.int .u64 64)) (.tmp 27)⟩,
       ⟨some 29, none, .bin .shl .plain (.tmp 26) (.tmp 28)⟩,
       ⟨some 30, none, .bin .or .plain (.tmp 25) (.tmp 29)⟩,
       ⟨some 31, none, .mv (.tmp 1)⟩,
       ⟨some 32, none, .mv (.tmp 7)⟩,
       ⟨some 33, none, .bin .shr .plain (.tmp 31) (.tmp 32)⟩,
       ⟨some 2, none, .mv (.tmp 30)⟩,
       ⟨some 1, none, .mv (.tmp 33)⟩])
     (.seq (.reg [⟨some 35, none, .mv (.tmp 2)⟩,
       ⟨some 36, none, .mv (.tmp 8)⟩,
       ⟨some 37, none, .add64 (.tmp 35) (.tmp 36) (.cst (.int .u64 0))⟩,
       ⟨some 34, none, .mv (.tmp 37)⟩,
       ⟨some 38, none, .ext (.tmp 34) 0⟩,
       ⟨some 39, none, .ext (.tmp 34) 1⟩,
       ⟨some 9, none, .mv (.tmp 38)⟩,
       ⟨some 10, none, .mv (.tmp 39)⟩])
     (.reg [⟨some 40, none, .mv (.tmp 9)⟩,
       ⟨some 41, none, .mv (.tmp 1)⟩,
       ⟨some 42, none, .mv (.tmp 10)⟩,
       ⟨some 43, none, .bin .add .plain (.tmp 41) (.tmp 42)⟩,
       ⟨some 2, none, .mv (.tmp 40)⟩,
       ⟨some 1, none, .mv (.tmp 43)⟩]))))))))
  (.seq (.seq (.reg [⟨some 44, none, .mv (.tmp 2)⟩,
    ⟨some 45, none, .mv (.tmp 0)⟩,
    ⟨some 46, none, .bin .eql .plain (.tmp 44) (.tmp 45)⟩])
  (.cond (.tmp 46)
   (.seq (.reg [⟨some 6, none, .mv (.cst (.int .u64 0))⟩])
   (.ret))
   (.skip)))
  (.seq (.reg [⟨some 47, none, .mv (.tmp 2)⟩,
    ⟨some 6, none, .mv (.tmp 47)⟩])
  (.ret)))))⟩

theorem tr73 : trF Go.Proofs.Try.prog { obj := [], bare := [], loops := [[0, 1, 2, 7]], draws := [], glob := [], fresh := false } Go.Proofs.Try.f73 = some ir73 := by kernel_rfl

/-- privity/privityref33.Fits -/
def ir74 : IFn := ⟨68, [.tmp 4 false],
  .seq (.reg [⟨some 2, none, .box (.tmp 0) false⟩,
    ⟨some 4, none, .mv (.cst (.bool false))⟩])
  (.seq (.seq (.reg [⟨some 5, none, .mv (.cst (.int .i64 0))⟩])
  (.block 0
   (.loop [1, 2, 5]
    (.seq (.seq (.reg [⟨some 8, none, .mv (.tmp 5)⟩,
      ⟨some 9, none, .fad (.tmp 2) 1⟩,
      ⟨some 10, none, .load (.tmp 9) 1 false⟩,
      ⟨some 11, none, .len .i (.tmp 10)⟩,
      ⟨some 12, none, .bin .lss .plain (.tmp 8) (.tmp 11)⟩])
    (.cond (.tmp 12)
     (.skip)
     (.brk 0)))
    (.seq (.block 1
     (.seq (.reg [⟨some 15, none, .fad (.tmp 2) 1⟩,
       ⟨some 16, none, .load (.tmp 15) 1 false⟩,
       ⟨some 17, none, .mv (.tmp 5)⟩,
       ⟨some 18, none, .idxS (.tmp 16) (.tmp 17) 5⟩,
       ⟨some 19, none, .fad (.tmp 18) 0⟩,
       ⟨some 20, none, .load (.tmp 19) 1 false⟩,
       ⟨some 21, none, .bin .eql .plain (.tmp 20) (.cst (.int .i64 1))⟩,
       ⟨some 22, none, .mv (.tmp 21)⟩,
       ⟨some 23, some (22, true), .fad (.tmp 2) 1⟩,
       ⟨some 24, some (22, true), .load (.tmp 23) 1 false⟩,
       ⟨some 25, some (22, true), .mv (.tmp 5)⟩,
       ⟨some 26, some (22, true), .idxS (.tmp 24) (.tmp 25) 5⟩,
       ⟨some 27, some (22, true), .fad (.tmp 26) 1⟩,
       ⟨some 28, some (22, true), .load (.tmp 27) 1 false⟩,
       ⟨some 29, some (22, true), .mv (.tmp 1)⟩,
       ⟨some 30, some (22, true), .len .i (.tmp 29)⟩,
       ⟨some 31, some (22, true), .bin .gtr .plain (.tmp 28) (.tmp 30)⟩,
       ⟨some 32, none, .pick (.tmp 22) (.tmp 31) (.cst (.bool false))⟩])
     (.cond (.tmp 32)
      (.seq (.reg [⟨some 4, none, .mv (.cst (.bool false))⟩])
      (.ret))
      (.skip))))
    (.reg [⟨some 13, none, .mv (.tmp 5)⟩,
      ⟨some 14, none, .bin .add .plain (.tmp 13) (.cst (.int .i64 1))⟩,
      ⟨some 5, none, .mv (.tmp 14)⟩]))))))
  (.seq (.seq (.reg [⟨some 6, none, .mv (.cst (.int .i64 0))⟩])
  (.block 2
   (.loop [1, 2, 6]
    (.seq (.seq (.reg [⟨some 33, none, .mv (.tmp 6)⟩,
      ⟨some 34, none, .mv (.tmp 1)⟩,
      ⟨some 35, none, .len .i (.tmp 34)⟩,
      ⟨some 36, none, .bin .lss .plain (.tmp 33) (.tmp 35)⟩])
    (.cond (.tmp 36)
     (.skip)
     (.brk 2)))
    (.seq (.block 3
     (.seq (.seq (.draw [(⟨some 39, none, .mv (.tmp 1)⟩, 0, []),
       (⟨some 40, none, .mv (.tmp 6)⟩, 1, []),
       (⟨some 41, none, .idxS (.tmp 39) (.tmp 40) 1⟩, 2, []),
       (⟨some 42, none, .load (.tmp 41) 1 false⟩, 3, []),
       (⟨some 43, none, .len .i (.tmp 42)⟩, 4, []),
       (⟨some 44, none, .load (.tmp 2) 3 true⟩, 5, []),
       (⟨some 45, none, .mv (.tmp 6)⟩, 6, []),
       (⟨some 46, none, .bin .add .plain (.tmp 45) (.cst (.int .i64 1))⟩, 7, []),
       (⟨some 47, none, .call 78 [(.tmp 44), (.tmp 46)]⟩, 8, [3, 4]),
       (⟨some 48, none, .bin .neq .plain (.tmp 43) (.tmp 47)⟩, 9, [])])
     (.cond (.tmp 48)
      (.seq (.reg [⟨some 4, none, .mv (.cst (.bool false))⟩])
      (.ret))
      (.skip)))
     (.seq (.reg [⟨some 7, none, .mv (.cst (.int .i64 0))⟩])
     (.block 4
      (.loop [1, 2, 6, 7]
       (.seq (.seq (.reg [⟨some 49, none, .mv (.tmp 7)⟩,
         ⟨some 50, none, .mv (.tmp 1)⟩,
         ⟨some 51, none, .mv (.tmp 6)⟩,
         ⟨some 52, none, .idxS (.tmp 50) (.tmp 51) 1⟩,
         ⟨some 53, none, .load (.tmp 52) 1 false⟩,
         ⟨some 54, none, .len .i (.tmp 53)⟩,
         ⟨some 55, none, .bin .lss .plain (.tmp 49) (.tmp 54)⟩])
       (.cond (.tmp 55)
        (.skip)
        (.brk 4)))
       (.seq (.block 5
        (.seq (.draw [(⟨some 58, none, .mv (.tmp 1)⟩, 0, []),
          (⟨some 59, none, .mv (.tmp 6)⟩, 1, []),
          (⟨some 60, none, .idxS (.tmp 58) (.tmp 59) 1⟩, 2, []),
          (⟨some 61, none, .load (.tmp 60) 1 false⟩, 3, []),
          (⟨some 62, none, .mv (.tmp 7)⟩, 4, []),
          (⟨some 63, none, .idxS (.tmp 61) (.tmp 62) 1⟩, 5, []),
          (⟨some 64, none, .load (.tmp 63) 1 false⟩, 6, []),
          (⟨some 65, none, .fad (.tmp 2) 0⟩, 7, []),
          (⟨some 66, none, .load (.tmp 65) 1 false⟩, 8, []),
          (⟨some 67, none, .bin .geq .plain (.tmp 64) (.tmp 66)⟩, 9, [])])
        (.cond (.tmp 67)
         (.seq (.reg [⟨some 4, none, .mv (.cst (.bool false))⟩])
         (.ret))
         (.skip))))
       (.reg [⟨some 56, none, .mv (.tmp 7)⟩,
         ⟨some 57, none, .bin .add .plain (.tmp 56) (.cst (.int .i64 1))⟩,
         ⟨some 7, none, .mv (.tmp 57)⟩]))))))))
    (.reg [⟨some 37, none, .mv (.tmp 6)⟩,
      ⟨some 38, none, .bin .add .plain (.tmp 37) (.cst (.int .i64 1))⟩,
      ⟨some 6, none, .mv (.tmp 38)⟩]))))))
  (.seq (.reg [⟨some 4, none, .mv (.cst (.bool true))⟩])
  (.ret))))⟩

theorem tr74 : trF Go.Proofs.Try.prog { obj := [], bare := [], loops := [[1, 2, 5], [1, 2, 6], [1, 2, 6, 7]], draws := [(9, ([0, 0, 3, 7, 15, 0, 0, 64, 224, 511], [(0, []), (1, []), (2, []), (3, []), (4, []), (5, []), (6, []), (7, []), (8, [3, 4]), (9, [])])), (14, ([0, 0, 3, 7, 0, 31, 63, 0, 128, 511], [(0, []), (1, []), (2, []), (3, []), (4, []), (5, []), (6, []), (7, []), (8, []), (9, [])]))], glob := [], fresh := false } Go.Proofs.Try.f74 = some ir74 := by kernel_rfl

/-- privity/privityref33.Counts -/
def ir75 : IFn := ⟨92, [.tmp 4 false],
  .seq (.reg [⟨some 2, none, .box (.tmp 0) false⟩,
    ⟨some 4, none, .mv (.cst (.vec [] .full))⟩])
  (.seq (.reg [⟨some 11, none, .mv (.tmp 1)⟩,
    ⟨some 12, none, .len .i (.tmp 11)⟩,
    ⟨some 13, none, .mks (.tmp 12) (.tmp 12) 1 8 false [(.int .i64 0)] true⟩,
    ⟨some 5, none, .mv (.tmp 13)⟩])
  (.seq (.reg [⟨some 14, none, .mv (.tmp 1)⟩,
    ⟨some 15, none, .len .i (.tmp 14)⟩,
    ⟨some 16, none, .mks (.tmp 15) (.tmp 15) 1 1 false [(.bool false)] true⟩,
    ⟨some 6, none, .mv (.tmp 16)⟩])
  (.seq (.seq (.reg [⟨some 7, none, .mv (.cst (.int .i64 0))⟩])
  (.block 0
   (.loop [1, 2, 5, 6, 7]
    (.seq (.seq (.reg [⟨some 17, none, .mv (.tmp 7)⟩,
      ⟨some 18, none, .fad (.tmp 2) 1⟩,
      ⟨some 19, none, .load (.tmp 18) 1 false⟩,
      ⟨some 20, none, .len .i (.tmp 19)⟩,
      ⟨some 21, none, .bin .lss .plain (.tmp 17) (.tmp 20)⟩])
    (.cond (.tmp 21)
     (.skip)
     (.brk 0)))
    (.seq (.block 1
     (.seq (.reg [⟨some 24, none, .fad (.tmp 2) 1⟩,
       ⟨some 25, none, .load (.tmp 24) 1 false⟩,
       ⟨some 26, none, .mv (.tmp 7)⟩,
       ⟨some 27, none, .idxS (.tmp 25) (.tmp 26) 5⟩,
       ⟨some 28, none, .load (.tmp 27) 5 true⟩,
       ⟨some 8, none, .allocz [(.int .i64 0), (.int .i64 0), (.int .i64 0), (.int .i64 0), (.int .u64 0)] false⟩,
       ⟨none, none, .store (.tmp 8) (.tmp 28) 5⟩])
     (.seq (.seq (.reg [⟨some 29, none, .fad (.tmp 8) 0⟩,
       ⟨some 30, none, .load (.tmp 29) 1 false⟩,
       ⟨some 31, none, .bin .neq .plain (.tmp 30) (.cst (.int .i64 1))⟩])
     (.cond (.tmp 31)
      (.brk 1)
      (.skip)))
     (.seq (.seq (.draw [(⟨some 32, none, .fad (.tmp 8) 4⟩, 0, []),
       (⟨some 33, none, .load (.tmp 32) 1 false⟩, 1, []),
       (⟨some 34, none, .bin .eql .plain (.tmp 33) (.cst (.int .u64 1))⟩, 2, []),
       (⟨some 35, none, .mv (.tmp 34)⟩, 3, []),
       (⟨some 36, some (35, true), .mv (.tmp 1)⟩, 4, []),
       (⟨some 37, some (35, true), .fad (.tmp 8) 1⟩, 5, []),
       (⟨some 38, some (35, true), .load (.tmp 37) 1 false⟩, 6, []),
       (⟨some 39, some (35, true), .bin .sub .plain (.tmp 38) (.cst (.int .i64 1))⟩, 7, []),
       (⟨some 40, some (35, true), .idxS (.tmp 36) (.tmp 39) 1⟩, 8, []),
       (⟨some 41, some (35, true), .load (.tmp 40) 1 false⟩, 9, []),
       (⟨some 42, some (35, true), .mv (.tmp 5)⟩, 10, []),
       (⟨some 43, some (35, true), .fad (.tmp 8) 1⟩, 11, []),
       (⟨some 44, some (35, true), .load (.tmp 43) 1 false⟩, 12, []),
       (⟨some 45, some (35, true), .bin .sub .plain (.tmp 44) (.cst (.int .i64 1))⟩, 13, []),
       (⟨some 46, some (35, true), .idxS (.tmp 42) (.tmp 45) 1⟩, 14, []),
       (⟨some 47, some (35, true), .load (.tmp 46) 1 false⟩, 15, []),
       (⟨some 48, some (35, true), .idxS (.tmp 41) (.tmp 47) 1⟩, 16, []),
       (⟨some 49, some (35, true), .load (.tmp 48) 1 false⟩, 17, []),
       (⟨some 50, some (35, true), .bin .gtr .plain (.tmp 49) (.cst (.int .u64 1))⟩, 18, []),
       (⟨some 51, none, .pick (.tmp 35) (.tmp 50) (.cst (.bool false))⟩, 19, [])])
     (.cond (.tmp 51)
      (.reg [⟨some 52, none, .mv (.tmp 6)⟩,
        ⟨some 53, none, .fad (.tmp 8) 1⟩,
        ⟨some 54, none, .load (.tmp 53) 1 false⟩,
        ⟨some 55, none, .bin .sub .plain (.tmp 54) (.cst (.int .i64 1))⟩,
        ⟨some 56, none, .idxS (.tmp 52) (.tmp 55) 1⟩,
        ⟨none, none, .store (.tmp 56) (.cst (.bool true)) 1⟩])
      (.skip)))
     (.reg [⟨some 57, none, .mv (.tmp 5)⟩,
       ⟨some 58, none, .fad (.tmp 8) 1⟩,
       ⟨some 59, none, .load (.tmp 58) 1 false⟩,
       ⟨some 60, none, .bin .sub .plain (.tmp 59) (.cst (.int .i64 1))⟩,
       ⟨some 61, none, .idxS (.tmp 57) (.tmp 60) 1⟩,
       ⟨some 62, none, .load (.tmp 61) 1 false⟩,
       ⟨some 63, none, .bin .add .plain (.tmp 62) (.cst (.int .i64 1))⟩,
       ⟨some 64, none, .idxS (.tmp 57) (.tmp 60) 1⟩,
       ⟨none, none, .store (.tmp 64) (.tmp 63) 1⟩])))))
    (.reg [⟨some 22, none, .mv (.tmp 7)⟩,
      ⟨some 23, none, .bin .add .plain (.tmp 22) (.cst (.int .i64 1))⟩,
      ⟨some 7, none, .mv (.tmp 23)⟩]))))))
  (.seq (.reg [⟨some 9, none, .mv (.cst (.vec [] .full))⟩])
  (.seq (.seq (.reg [⟨some 10, none, .mv (.cst (.int .i64 0))⟩])
  (.block 2
   (.loop [1, 6, 9, 10]
    (.seq (.seq (.reg [⟨some 65, none, .mv (.tmp 10)⟩,
      ⟨some 66, none, .mv (.tmp 1)⟩,
      ⟨some 67, none, .len .i (.tmp 66)⟩,
      ⟨some 68, none, .bin .lss .plain (.tmp 65) (.tmp 67)⟩])
    (.cond (.tmp 68)
     (.skip)
     (.brk 2)))
    (.seq (.block 3
     (.seq (.reg [⟨some 71, none, .mv (.tmp 6)⟩,
       ⟨some 72, none, .mv (.tmp 10)⟩,
       ⟨some 73, none, .idxS (.tmp 71) (.tmp 72) 1⟩,
       ⟨some 74, none, .load (.tmp 73) 1 false⟩])
     (.cond (.tmp 74)
      (.reg [⟨some 75, none, .mv (.tmp 9)⟩,
        ⟨some 76, none, .mv (.tmp 1)⟩,
        ⟨some 77, none, .mv (.tmp 10)⟩,
        ⟨some 78, none, .idxS (.tmp 76) (.tmp 77) 1⟩,
        ⟨some 79, none, .load (.tmp 78) 1 false⟩,
        ⟨some 80, none, .len .i (.tmp 79)⟩,
        ⟨some 81, none, .mks (.tmp 80) (.tmp 80) 1 8 false [(.int .u64 0)] false⟩,
        ⟨some 82, none, .bsl 1 1 false [(.vec [] .any)] [(0, 1, (.tmp 81))]⟩,
        ⟨some 83, none, .app (.tmp 75) (.tmp 82) 1 24 false false⟩,
        ⟨some 9, none, .mv (.tmp 83)⟩])
      (.reg [⟨some 84, none, .mv (.tmp 9)⟩,
        ⟨some 85, none, .mv (.tmp 1)⟩,
        ⟨some 86, none, .mv (.tmp 10)⟩,
        ⟨some 87, none, .idxS (.tmp 85) (.tmp 86) 1⟩,
        ⟨some 88, none, .load (.tmp 87) 1 false⟩,
        ⟨some 89, none, .bsl 1 1 false [(.vec [] .any)] [(0, 1, (.tmp 88))]⟩,
        ⟨some 90, none, .app (.tmp 84) (.tmp 89) 1 24 false false⟩,
        ⟨some 9, none, .mv (.tmp 90)⟩]))))
    (.reg [⟨some 69, none, .mv (.tmp 10)⟩,
      ⟨some 70, none, .bin .add .plain (.tmp 69) (.cst (.int .i64 1))⟩,
      ⟨some 10, none, .mv (.tmp 70)⟩]))))))
  (.seq (.reg [⟨some 91, none, .mv (.tmp 9)⟩,
    ⟨some 4, none, .mv (.tmp 91)⟩])
  (.ret)))))))⟩

theorem tr75 : trF Go.Proofs.Try.prog { obj := [13, 16], bare := [], loops := [[1, 2, 5, 6, 7], [1, 6, 9, 10]], draws := [(8, ([0, 1, 3, 7, 15, 15, 47, 111, 255, 511, 15, 15, 2063, 6159, 15375, 31759, 65535, 131071, 262143, 524287], [(0, []), (1, []), (2, []), (3, []), (4, []), (5, []), (6, []), (7, []), (8, []), (9, []), (10, []), (11, []), (12, []), (13, []), (14, []), (15, []), (16, []), (17, []), (18, []), (19, [])]))], glob := [], fresh := false } Go.Proofs.Try.f75 = some ir75 := by kernel_rfl

/-- privity/field.width -/
def ir76 : IFn := ⟨6, [.tmp 2 false],
  .seq (.reg [⟨some 2, none, .mv (.cst (.int .u64 0))⟩])
  (.seq (.reg [⟨some 3, none, .mv (.tmp 0)⟩,
    ⟨some 4, none, .call 79 [(.tmp 3)]⟩,
    ⟨some 5, none, .cvI .u64 (.tmp 4)⟩,
    ⟨some 2, none, .mv (.tmp 5)⟩])
  (.ret))⟩

theorem tr76 : trF Go.Proofs.Try.prog { obj := [], bare := [], loops := [], draws := [], glob := [], fresh := false } Go.Proofs.Try.f76 = some ir76 := by kernel_rfl

/-- privity/privityref33.inputCount -/
def ir78 : IFn := ⟨34, [.tmp 4 false],
  .seq (.reg [⟨some 2, none, .box (.tmp 0) false⟩,
    ⟨some 4, none, .mv (.cst (.int .i64 0))⟩])
  (.seq (.reg [⟨some 5, none, .mv (.cst (.int .i64 0))⟩])
  (.seq (.seq (.reg [⟨some 6, none, .mv (.cst (.int .i64 0))⟩])
  (.block 0
   (.loop [1, 2, 5, 6]
    (.seq (.seq (.reg [⟨some 7, none, .mv (.tmp 6)⟩,
      ⟨some 8, none, .fad (.tmp 2) 1⟩,
      ⟨some 9, none, .load (.tmp 8) 1 false⟩,
      ⟨some 10, none, .len .i (.tmp 9)⟩,
      ⟨some 11, none, .bin .lss .plain (.tmp 7) (.tmp 10)⟩])
    (.cond (.tmp 11)
     (.skip)
     (.brk 0)))
    (.seq (.block 1
     (.seq (.reg [⟨some 14, none, .fad (.tmp 2) 1⟩,
       ⟨some 15, none, .load (.tmp 14) 1 false⟩,
       ⟨some 16, none, .mv (.tmp 6)⟩,
       ⟨some 17, none, .idxS (.tmp 15) (.tmp 16) 5⟩,
       ⟨some 18, none, .fad (.tmp 17) 0⟩,
       ⟨some 19, none, .load (.tmp 18) 1 false⟩,
       ⟨some 20, none, .bin .eql .plain (.tmp 19) (.cst (.int .i64 1))⟩,
       ⟨some 21, none, .mv (.tmp 20)⟩,
       ⟨some 22, some (21, true), .fad (.tmp 2) 1⟩,
       ⟨some 23, some (21, true), .load (.tmp 22) 1 false⟩,
       ⟨some 24, some (21, true), .mv (.tmp 6)⟩,
       ⟨some 25, some (21, true), .idxS (.tmp 23) (.tmp 24) 5⟩,
       ⟨some 26, some (21, true), .fad (.tmp 25) 1⟩,
       ⟨some 27, some (21, true), .load (.tmp 26) 1 false⟩,
       ⟨some 28, some (21, true), .mv (.tmp 1)⟩,
       ⟨some 29, some (21, true), .bin .eql .plain (.tmp 27) (.tmp 28)⟩,
       ⟨some 30, none, .pick (.tmp 21) (.tmp 29) (.cst (.bool false))⟩])
     (.cond (.tmp 30)
      (.reg [⟨some 31, none, .mv (.tmp 5)⟩,
        ⟨some 32, none, .bin .add .plain (.tmp 31) (.cst (.int .i64 1))⟩,
        ⟨some 5, none, .mv (.tmp 32)⟩])
      (.skip))))
    (.reg [⟨some 12, none, .mv (.tmp 6)⟩,
      ⟨some 13, none, .bin .add .plain (.tmp 12) (.cst (.int .i64 1))⟩,
      ⟨some 6, none, .mv (.tmp 13)⟩]))))))
  (.seq (.reg [⟨some 33, none, .mv (.tmp 5)⟩,
    ⟨some 4, none, .mv (.tmp 33)⟩])
  (.ret))))⟩

theorem tr78 : trF Go.Proofs.Try.prog { obj := [], bare := [], loops := [[1, 2, 5, 6]], draws := [], glob := [], fresh := false } Go.Proofs.Try.f78 = some ir78 := by kernel_rfl

/-- math/bits.Len64 -/
def ir79 : IFn := ⟨25, [.tmp 2 false],
  .seq (.reg [⟨some 2, none, .mv (.cst (.int .i64 0))⟩])
  (.seq (.seq (.reg [⟨some 3, none, .mv (.tmp 0)⟩,
    ⟨some 4, none, .bin .geq .plain (.tmp 3) (.cst (.int .u64 4294967296))⟩])
  (.cond (.tmp 4)
   (.seq (.reg [⟨some 5, none, .mv (.tmp 0)⟩,
     ⟨some 6, none, .bin .shr .plain (.tmp 5) (.cst (.int .u64 32))⟩,
     ⟨some 0, none, .mv (.tmp 6)⟩])
   (.reg [⟨some 2, none, .mv (.cst (.int .i64 32))⟩]))
   (.skip)))
  (.seq (.seq (.reg [⟨some 7, none, .mv (.tmp 0)⟩,
    ⟨some 8, none, .bin .geq .plain (.tmp 7) (.cst (.int .u64 65536))⟩])
  (.cond (.tmp 8)
   (.seq (.reg [⟨some 9, none, .mv (.tmp 0)⟩,
     ⟨some 10, none, .bin .shr .plain (.tmp 9) (.cst (.int .u64 16))⟩,
     ⟨some 0, none, .mv (.tmp 10)⟩])
   (.reg [⟨some 11, none, .mv (.tmp 2)⟩,
     ⟨some 12, none, .bin .add .plain (.tmp 11) (.cst (.int .i64 16))⟩,
     ⟨some 2, none, .mv (.tmp 12)⟩]))
   (.skip)))
  (.seq (.seq (.reg [⟨some 13, none, .mv (.tmp 0)⟩,
    ⟨some 14, none, .bin .geq .plain (.tmp 13) (.cst (.int .u64 256))⟩])
  (.cond (.tmp 14)
   (.seq (.reg [⟨some 15, none, .mv (.tmp 0)⟩,
     ⟨some 16, none, .bin .shr .plain (.tmp 15) (.cst (.int .u64 8))⟩,
     ⟨some 0, none, .mv (.tmp 16)⟩])
   (.reg [⟨some 17, none, .mv (.tmp 2)⟩,
     ⟨some 18, none, .bin .add .plain (.tmp 17) (.cst (.int .i64 8))⟩,
     ⟨some 2, none, .mv (.tmp 18)⟩]))
   (.skip)))
  (.seq (.reg [⟨some 19, none, .mv (.tmp 2)⟩,
    ⟨some 20, none, .mv (.tmp 0)⟩,
    ⟨some 21, none, .cvI .u8 (.tmp 20)⟩,
    ⟨some 22, none, .idxStr (.cst (.str bytes0)) (.tmp 21)⟩,
    ⟨some 23, none, .cvI .i64 (.tmp 22)⟩,
    ⟨some 24, none, .bin .add .plain (.tmp 19) (.tmp 23)⟩,
    ⟨some 2, none, .mv (.tmp 24)⟩])
  (.ret)))))⟩

theorem tr79 : trF Go.Proofs.Try.prog { obj := [], bare := [], loops := [], draws := [], glob := [], fresh := false } Go.Proofs.Try.f79 = some ir79 := by kernel_rfl

end Go.Ab.Ytgfnhkedfmnijaa
