/- The functions of this seat in the small language of the layer Ab (printed by program), and that they are what the loaded functions are brought into. -/
import Derived.Test.YtgnpliafpklfcaaAb1
import Derived.Test.YtgnpliafpklfcaaProg
import Derived.KernelRfl
set_option maxRecDepth 100000
namespace Go.Ab.Ytgnpliafpklfcaa

def bytes0 : ByteArray := ⟨#[0, 1, 2, 2, 3, 3, 3, 3, 4, 4, 4, 4, 4, 4, 4, 4, 5, 5, 5, 5, 5, 5, 5, 5, 5, 5, 5, 5, 5, 5, 5, 5, 6, 6, 6, 6, 6, 6, 6, 6, 6, 6, 6, 6, 6, 6, 6, 6, 6, 6, 6, 6, 6, 6, 6, 6, 6, 6, 6, 6, 6, 6, 6, 6, 7, 7, 7, 7, 7, 7, 7, 7, 7, 7, 7, 7, 7, 7, 7, 7, 7, 7, 7, 7, 7, 7, 7, 7, 7, 7, 7, 7, 7, 7, 7, 7, 7, 7, 7, 7, 7, 7, 7, 7, 7, 7, 7, 7, 7, 7, 7, 7, 7, 7, 7, 7, 7, 7, 7, 7, 7, 7, 7, 7, 7, 7, 7, 7, 8, 8, 8, 8, 8, 8, 8, 8, 8, 8, 8, 8, 8, 8, 8, 8, 8, 8, 8, 8, 8, 8, 8, 8, 8, 8, 8, 8, 8, 8, 8, 8, 8, 8, 8, 8, 8, 8, 8, 8, 8, 8, 8, 8, 8, 8, 8, 8, 8, 8, 8, 8, 8, 8, 8, 8, 8, 8, 8, 8, 8, 8, 8, 8, 8, 8, 8, 8, 8, 8, 8, 8, 8, 8, 8, 8, 8, 8, 8, 8, 8, 8, 8, 8, 8, 8, 8, 8, 8, 8, 8, 8, 8, 8, 8, 8, 8, 8, 8, 8, 8, 8, 8, 8, 8, 8, 8, 8, 8, 8, 8, 8, 8, 8, 8, 8, 8, 8, 8, 8, 8, 8, 8, 8, 8, 8, 8, 8]⟩

/-- privity/privitylaw11.TapeTake -/
def ir3 : IFn := ⟨83, [.tmp 4],
  .seq (.reg [⟨some 4, none, .mv (.cst (.bool false))⟩])
  (.seq (.seq (.reg [⟨some 12, none, .mv (.tmp 0)⟩,
    ⟨some 13, none, .len .i (.tmp 12)⟩,
    ⟨some 14, none, .bin .gtr .plain (.tmp 13) (.cst (.int .i64 300))⟩,
    ⟨some 15, none, .mv (.tmp 14)⟩,
    ⟨some 16, some (15, false), .mv (.tmp 1)⟩,
    ⟨some 17, some (15, false), .len .i (.tmp 16)⟩,
    ⟨some 18, some (15, false), .bin .gtr .plain (.tmp 17) (.cst (.int .i64 50))⟩,
    ⟨some 19, none, .pick (.tmp 15) (.cst (.bool true)) (.tmp 18)⟩])
  (.cond (.tmp 19)
   (.seq (.reg [⟨some 20, none, .call 8 []⟩,
     ⟨some 4, none, .mv (.tmp 20)⟩])
   (.ret))
   (.skip)))
  (.seq (.reg [⟨some 21, none, .mv (.tmp 0)⟩,
    ⟨some 22, none, .call 9 [(.tmp 21)]⟩,
    ⟨some 23, none, .mv (.tmp 0)⟩,
    ⟨some 24, none, .call 10 [(.tmp 23)]⟩,
    ⟨some 5, none, .mv (.tmp 22)⟩,
    ⟨some 6, none, .mv (.tmp 24)⟩])
  (.seq (.seq (.reg [⟨some 7, none, .mv (.cst (.int .i64 0))⟩])
  (.block 0
   (.loop [0, 1, 5, 6, 7]
    (.seq (.seq (.reg [⟨some 25, none, .mv (.tmp 7)⟩,
      ⟨some 26, none, .mv (.tmp 1)⟩,
      ⟨some 27, none, .len .i (.tmp 26)⟩,
      ⟨some 28, none, .bin .lss .plain (.tmp 25) (.tmp 27)⟩])
    (.cond (.tmp 28)
     (.skip)
     (.brk 0)))
    (.seq (.block 1
     (.seq (.reg [⟨some 32, none, .mv (.tmp 5)⟩,
       ⟨some 33, none, .mv (.tmp 1)⟩,
       ⟨some 34, none, .mv (.tmp 7)⟩,
       ⟨some 35, none, .idxS (.tmp 33) (.tmp 34) 1⟩,
       ⟨some 36, none, .load (.tmp 35) 1 false⟩,
       ⟨some 37, none, .call 11 [(.tmp 32), (.tmp 36)]⟩,
       ⟨some 31, none, .mv (.tmp 37)⟩,
       ⟨some 38, none, .ext (.tmp 31) 0⟩,
       ⟨some 39, none, .ext (.tmp 31) 1⟩,
       ⟨some 8, none, .mv (.tmp 38)⟩,
       ⟨some 9, none, .mv (.tmp 39)⟩])
     (.seq (.reg [⟨some 41, none, .mv (.tmp 6)⟩,
       ⟨some 42, none, .mv (.tmp 1)⟩,
       ⟨some 43, none, .mv (.tmp 7)⟩,
       ⟨some 44, none, .idxS (.tmp 42) (.tmp 43) 1⟩,
       ⟨some 45, none, .load (.tmp 44) 1 false⟩,
       ⟨some 46, none, .call 12 [(.tmp 41), (.tmp 45)]⟩,
       ⟨some 40, none, .mv (.tmp 46)⟩,
       ⟨some 47, none, .ext (.tmp 40) 0⟩,
       ⟨some 48, none, .ext (.tmp 40) 1⟩,
       ⟨some 10, none, .mv (.tmp 47)⟩,
       ⟨some 11, none, .mv (.tmp 48)⟩])
     (.seq (.reg [⟨some 49, none, .mv (.tmp 8)⟩,
       ⟨some 50, none, .mv (.tmp 10)⟩,
       ⟨some 51, none, .call 13 [(.tmp 49), (.tmp 50)]⟩,
       ⟨some 52, none, .un .not (.tmp 51)⟩,
       ⟨some 53, none, .mv (.tmp 52)⟩,
       ⟨some 54, some (53, false), .mv (.tmp 9)⟩,
       ⟨some 55, some (53, false), .mv (.tmp 11)⟩,
       ⟨some 56, some (53, false), .bin .neq .plain (.tmp 54) (.tmp 55)⟩,
       ⟨some 57, none, .pick (.tmp 53) (.cst (.bool true)) (.tmp 56)⟩,
       ⟨some 58, none, .mv (.tmp 57)⟩,
       ⟨some 59, some (58, false), .mv (.tmp 5)⟩,
       ⟨some 60, some (58, false), .call 14 [(.tmp 59)]⟩,
       ⟨some 61, some (58, false), .mv (.tmp 6)⟩,
       ⟨some 62, some (58, false), .call 15 [(.tmp 61)]⟩,
       ⟨some 63, some (58, false), .bin .neq .plain (.tmp 60) (.tmp 62)⟩,
       ⟨some 64, none, .pick (.tmp 58) (.cst (.bool true)) (.tmp 63)⟩,
       ⟨some 65, none, .mv (.tmp 64)⟩,
       ⟨some 66, some (65, false), .mv (.tmp 5)⟩,
       ⟨some 67, some (65, false), .call 16 [(.tmp 66)]⟩,
       ⟨some 68, some (65, false), .mv (.tmp 6)⟩,
       ⟨some 69, some (65, false), .call 17 [(.tmp 68)]⟩,
       ⟨some 70, some (65, false), .bin .neq .plain (.tmp 67) (.tmp 69)⟩,
       ⟨some 71, none, .pick (.tmp 65) (.cst (.bool true)) (.tmp 70)⟩])
     (.cond (.tmp 71)
      (.seq (.reg [⟨some 4, none, .mv (.cst (.bool false))⟩])
      (.ret))
      (.skip))))))
    (.reg [⟨some 29, none, .mv (.tmp 7)⟩,
      ⟨some 30, none, .bin .add .plain (.tmp 29) (.cst (.int .i64 1))⟩,
      ⟨some 7, none, .mv (.tmp 30)⟩]))))))
  (.seq (.reg [⟨some 72, none, .call 8 []⟩,
    ⟨some 73, none, .mv (.tmp 72)⟩,
    ⟨some 74, some (73, true), .mv (.tmp 5)⟩,
    ⟨some 75, some (73, true), .call 14 [(.tmp 74)]⟩,
    ⟨some 76, some (73, true), .mv (.tmp 5)⟩,
    ⟨some 77, some (73, true), .call 16 [(.tmp 76)]⟩,
    ⟨some 78, some (73, true), .bin .add .plain (.tmp 75) (.tmp 77)⟩,
    ⟨some 79, some (73, true), .mv (.tmp 0)⟩,
    ⟨some 80, some (73, true), .len .i (.tmp 79)⟩,
    ⟨some 81, some (73, true), .bin .eql .plain (.tmp 78) (.tmp 80)⟩,
    ⟨some 82, none, .pick (.tmp 73) (.tmp 81) (.cst (.bool false))⟩,
    ⟨some 4, none, .mv (.tmp 82)⟩])
  (.ret)))))⟩

theorem tr3 : trF Go.Proofs.Try.prog { obj := [], bare := [], loops := [[0, 1, 5, 6, 7]], draws := [], glob := [] } Go.Proofs.Try.f3 = some ir3 := by kernel_rfl

/-- privity/privitylaw11.TapeTakeSplit -/
def ir4 : IFn := ⟨86, [.tmp 6],
  .seq (.reg [⟨some 6, none, .mv (.cst (.bool false))⟩])
  (.seq (.seq (.reg [⟨some 15, none, .mv (.tmp 0)⟩,
    ⟨some 16, none, .len .i (.tmp 15)⟩,
    ⟨some 17, none, .bin .gtr .plain (.tmp 16) (.cst (.int .i64 300))⟩])
  (.cond (.tmp 17)
   (.seq (.reg [⟨some 18, none, .call 8 []⟩,
     ⟨some 6, none, .mv (.tmp 18)⟩])
   (.ret))
   (.skip)))
  (.seq (.reg [⟨some 19, none, .mv (.tmp 0)⟩,
    ⟨some 20, none, .call 9 [(.tmp 19)]⟩,
    ⟨some 21, none, .mv (.tmp 0)⟩,
    ⟨some 22, none, .call 9 [(.tmp 21)]⟩,
    ⟨some 7, none, .mv (.tmp 20)⟩,
    ⟨some 8, none, .mv (.tmp 22)⟩])
  (.seq (.reg [⟨some 24, none, .mv (.tmp 7)⟩,
    ⟨some 25, none, .mv (.tmp 1)⟩,
    ⟨some 26, none, .cvI .i64 (.tmp 25)⟩,
    ⟨some 27, none, .call 11 [(.tmp 24), (.tmp 26)]⟩,
    ⟨some 23, none, .mv (.tmp 27)⟩,
    ⟨some 28, none, .ext (.tmp 23) 0⟩,
    ⟨some 29, none, .ext (.tmp 23) 1⟩,
    ⟨some 9, none, .mv (.tmp 28)⟩,
    ⟨some 10, none, .mv (.tmp 29)⟩])
  (.seq (.reg [⟨some 31, none, .mv (.tmp 7)⟩,
    ⟨some 32, none, .mv (.tmp 2)⟩,
    ⟨some 33, none, .cvI .i64 (.tmp 32)⟩,
    ⟨some 34, none, .call 11 [(.tmp 31), (.tmp 33)]⟩,
    ⟨some 30, none, .mv (.tmp 34)⟩,
    ⟨some 35, none, .ext (.tmp 30) 0⟩,
    ⟨some 36, none, .ext (.tmp 30) 1⟩,
    ⟨some 11, none, .mv (.tmp 35)⟩,
    ⟨some 12, none, .mv (.tmp 36)⟩])
  (.seq (.reg [⟨some 38, none, .mv (.tmp 8)⟩,
    ⟨some 39, none, .mv (.tmp 1)⟩,
    ⟨some 40, none, .cvI .i64 (.tmp 39)⟩,
    ⟨some 41, none, .mv (.tmp 2)⟩,
    ⟨some 42, none, .cvI .i64 (.tmp 41)⟩,
    ⟨some 43, none, .bin .add .plain (.tmp 40) (.tmp 42)⟩,
    ⟨some 44, none, .call 11 [(.tmp 38), (.tmp 43)]⟩,
    ⟨some 37, none, .mv (.tmp 44)⟩,
    ⟨some 45, none, .ext (.tmp 37) 0⟩,
    ⟨some 46, none, .ext (.tmp 37) 1⟩,
    ⟨some 13, none, .mv (.tmp 45)⟩,
    ⟨some 14, none, .mv (.tmp 46)⟩])
  (.seq (.seq (.reg [⟨some 47, none, .mv (.tmp 10)⟩,
    ⟨some 48, none, .bin .eql .plain (.tmp 47) (.cst (.int .i64 0))⟩,
    ⟨some 49, none, .mv (.tmp 48)⟩,
    ⟨some 50, some (49, true), .mv (.tmp 12)⟩,
    ⟨some 51, some (49, true), .bin .eql .plain (.tmp 50) (.cst (.int .i64 0))⟩,
    ⟨some 52, none, .pick (.tmp 49) (.tmp 51) (.cst (.bool false))⟩,
    ⟨some 53, none, .mv (.tmp 14)⟩,
    ⟨some 54, none, .bin .eql .plain (.tmp 53) (.cst (.int .i64 0))⟩,
    ⟨some 55, none, .bin .neq .bool (.tmp 52) (.tmp 54)⟩])
  (.cond (.tmp 55)
   (.seq (.reg [⟨some 6, none, .mv (.cst (.bool false))⟩])
   (.ret))
   (.skip)))
  (.seq (.seq (.reg [⟨some 56, none, .mv (.tmp 14)⟩,
    ⟨some 57, none, .bin .neq .plain (.tmp 56) (.cst (.int .i64 0))⟩])
  (.cond (.tmp 57)
   (.seq (.reg [⟨some 58, none, .call 8 []⟩,
     ⟨some 59, none, .mv (.tmp 58)⟩,
     ⟨some 60, some (59, true), .mv (.tmp 8)⟩,
     ⟨some 61, some (59, true), .call 16 [(.tmp 60)]⟩,
     ⟨some 62, some (59, true), .bin .eql .plain (.tmp 61) (.cst (.int .i64 0))⟩,
     ⟨some 63, none, .pick (.tmp 59) (.tmp 62) (.cst (.bool false))⟩,
     ⟨some 64, none, .mv (.tmp 63)⟩,
     ⟨some 65, some (64, true), .mv (.tmp 13)⟩,
     ⟨some 66, some (64, true), .len .i (.tmp 65)⟩,
     ⟨some 67, some (64, true), .bin .eql .plain (.tmp 66) (.cst (.int .i64 0))⟩,
     ⟨some 68, none, .pick (.tmp 64) (.tmp 67) (.cst (.bool false))⟩,
     ⟨some 6, none, .mv (.tmp 68)⟩])
   (.ret))
   (.skip)))
  (.seq (.reg [⟨some 69, none, .call 8 []⟩,
    ⟨some 70, none, .mv (.tmp 69)⟩,
    ⟨some 71, some (70, true), .bsl 0 1 false [(.int .u64 0)] []⟩,
    ⟨some 72, some (70, true), .mv (.tmp 9)⟩,
    ⟨some 73, some (70, true), .app (.tmp 71) (.tmp 72) 1 8 false false⟩,
    ⟨some 74, some (70, true), .mv (.tmp 11)⟩,
    ⟨some 75, some (70, true), .app (.tmp 73) (.tmp 74) 1 8 false false⟩,
    ⟨some 76, some (70, true), .mv (.tmp 13)⟩,
    ⟨some 77, some (70, true), .call 13 [(.tmp 75), (.tmp 76)]⟩,
    ⟨some 78, none, .pick (.tmp 70) (.tmp 77) (.cst (.bool false))⟩,
    ⟨some 79, none, .mv (.tmp 78)⟩,
    ⟨some 80, some (79, true), .mv (.tmp 7)⟩,
    ⟨some 81, some (79, true), .call 14 [(.tmp 80)]⟩,
    ⟨some 82, some (79, true), .mv (.tmp 8)⟩,
    ⟨some 83, some (79, true), .call 14 [(.tmp 82)]⟩,
    ⟨some 84, some (79, true), .bin .eql .plain (.tmp 81) (.tmp 83)⟩,
    ⟨some 85, none, .pick (.tmp 79) (.tmp 84) (.cst (.bool false))⟩,
    ⟨some 6, none, .mv (.tmp 85)⟩])
  (.ret)))))))))⟩

theorem tr4 : trF Go.Proofs.Try.prog { obj := [], bare := [], loops := [], draws := [], glob := [] } Go.Proofs.Try.f4 = some ir4 := by kernel_rfl

/-- privity/privitylaw11.TapeTakeFails -/
def ir5 : IFn := ⟨98, [.tmp 6],
  .seq (.reg [⟨some 6, none, .mv (.cst (.bool false))⟩])
  (.seq (.seq (.reg [⟨some 15, none, .mv (.tmp 0)⟩,
    ⟨some 16, none, .len .i (.tmp 15)⟩,
    ⟨some 17, none, .bin .gtr .plain (.tmp 16) (.cst (.int .i64 300))⟩,
    ⟨some 18, none, .mv (.tmp 17)⟩,
    ⟨some 19, some (18, false), .mv (.tmp 0)⟩,
    ⟨some 20, some (18, false), .len .i (.tmp 19)⟩,
    ⟨some 21, some (18, false), .bin .eql .plain (.tmp 20) (.cst (.int .i64 0))⟩,
    ⟨some 22, none, .pick (.tmp 18) (.cst (.bool true)) (.tmp 21)⟩])
  (.cond (.tmp 22)
   (.seq (.reg [⟨some 23, none, .call 8 []⟩,
     ⟨some 6, none, .mv (.tmp 23)⟩])
   (.ret))
   (.skip)))
  (.seq (.reg [⟨some 24, none, .mv (.tmp 0)⟩,
    ⟨some 25, none, .call 9 [(.tmp 24)]⟩,
    ⟨some 7, none, .mv (.tmp 25)⟩])
  (.seq (.reg [⟨some 26, none, .mv (.tmp 1)⟩,
    ⟨some 27, none, .cvI .i64 (.tmp 26)⟩,
    ⟨some 28, none, .mv (.tmp 0)⟩,
    ⟨some 29, none, .len .i (.tmp 28)⟩,
    ⟨some 30, none, .bin .rem .plain (.tmp 27) (.tmp 29)⟩,
    ⟨some 8, none, .mv (.tmp 30)⟩])
  (.seq (.reg [⟨some 31, none, .mv (.tmp 7)⟩,
    ⟨some 32, none, .mv (.tmp 8)⟩,
    ⟨some 33, none, .call 11 [(.tmp 31), (.tmp 32)]⟩])
  (.seq (.reg [⟨some 35, none, .mv (.tmp 7)⟩,
    ⟨some 36, none, .mv (.tmp 0)⟩,
    ⟨some 37, none, .len .i (.tmp 36)⟩,
    ⟨some 38, none, .mv (.tmp 8)⟩,
    ⟨some 39, none, .bin .sub .plain (.tmp 37) (.tmp 38)⟩,
    ⟨some 40, none, .bin .add .plain (.tmp 39) (.cst (.int .i64 1))⟩,
    ⟨some 41, none, .mv (.tmp 2)⟩,
    ⟨some 42, none, .cvI .i64 (.tmp 41)⟩,
    ⟨some 43, none, .bin .add .plain (.tmp 40) (.tmp 42)⟩,
    ⟨some 44, none, .call 11 [(.tmp 35), (.tmp 43)]⟩,
    ⟨some 34, none, .mv (.tmp 44)⟩,
    ⟨some 45, none, .ext (.tmp 34) 0⟩,
    ⟨some 46, none, .ext (.tmp 34) 1⟩,
    ⟨some 9, none, .mv (.tmp 45)⟩,
    ⟨some 10, none, .mv (.tmp 46)⟩])
  (.seq (.reg [⟨some 48, none, .mv (.tmp 7)⟩,
    ⟨some 49, none, .mv (.tmp 2)⟩,
    ⟨some 50, none, .cvI .i64 (.tmp 49)⟩,
    ⟨some 51, none, .bin .sub .plain (.cst (.int .i64 (-1))) (.tmp 50)⟩,
    ⟨some 52, none, .call 11 [(.tmp 48), (.tmp 51)]⟩,
    ⟨some 47, none, .mv (.tmp 52)⟩,
    ⟨some 53, none, .ext (.tmp 47) 0⟩,
    ⟨some 54, none, .ext (.tmp 47) 1⟩,
    ⟨some 11, none, .mv (.tmp 53)⟩,
    ⟨some 12, none, .mv (.tmp 54)⟩])
  (.seq (.reg [⟨some 56, none, .mv (.tmp 7)⟩,
    ⟨some 57, none, .call 11 [(.tmp 56), (.cst (.int .i64 1))]⟩,
    ⟨some 55, none, .mv (.tmp 57)⟩,
    ⟨some 58, none, .ext (.tmp 55) 0⟩,
    ⟨some 59, none, .ext (.tmp 55) 1⟩,
    ⟨some 13, none, .mv (.tmp 58)⟩,
    ⟨some 14, none, .mv (.tmp 59)⟩])
  (.seq (.draw [(⟨some 60, none, .call 8 []⟩, 0, []),
    (⟨some 61, none, .mv (.tmp 60)⟩, 1, []),
    (⟨some 62, some (61, true), .mv (.tmp 10)⟩, 2, []),
    (⟨some 63, some (61, true), .bin .eql .plain (.tmp 62) (.cst (.int .i64 10))⟩, 3, []),
    (⟨some 64, none, .pick (.tmp 61) (.tmp 63) (.cst (.bool false))⟩, 4, []),
    (⟨some 65, none, .mv (.tmp 64)⟩, 5, []),
    (⟨some 66, some (65, true), .mv (.tmp 9)⟩, 6, []),
    (⟨some 67, some (65, true), .len .i (.tmp 66)⟩, 7, []),
    (⟨some 68, some (65, true), .bin .eql .plain (.tmp 67) (.cst (.int .i64 0))⟩, 8, []),
    (⟨some 69, none, .pick (.tmp 65) (.tmp 68) (.cst (.bool false))⟩, 9, []),
    (⟨some 70, none, .mv (.tmp 69)⟩, 10, []),
    (⟨some 71, some (70, true), .mv (.tmp 12)⟩, 11, []),
    (⟨some 72, some (70, true), .bin .eql .plain (.tmp 71) (.cst (.int .i64 10))⟩, 12, []),
    (⟨some 73, none, .pick (.tmp 70) (.tmp 72) (.cst (.bool false))⟩, 13, []),
    (⟨some 74, none, .mv (.tmp 73)⟩, 14, []),
    (⟨some 75, some (74, true), .mv (.tmp 11)⟩, 15, []),
    (⟨some 76, some (74, true), .len .i (.tmp 75)⟩, 16, []),
    (⟨some 77, some (74, true), .bin .eql .plain (.tmp 76) (.cst (.int .i64 0))⟩, 17, []),
    (⟨some 78, none, .pick (.tmp 74) (.tmp 77) (.cst (.bool false))⟩, 18, []),
    (⟨some 79, none, .mv (.tmp 78)⟩, 19, []),
    (⟨some 80, some (79, true), .mv (.tmp 14)⟩, 20, []),
    (⟨some 81, some (79, true), .bin .eql .plain (.tmp 80) (.cst (.int .i64 0))⟩, 21, []),
    (⟨some 82, none, .pick (.tmp 79) (.tmp 81) (.cst (.bool false))⟩, 22, []),
    (⟨some 83, none, .mv (.tmp 82)⟩, 23, []),
    (⟨some 84, some (83, true), .mv (.tmp 13)⟩, 24, []),
    (⟨some 85, some (83, true), .len .i (.tmp 84)⟩, 25, []),
    (⟨some 86, some (83, true), .bin .eql .plain (.tmp 85) (.cst (.int .i64 1))⟩, 26, []),
    (⟨some 87, none, .pick (.tmp 83) (.tmp 86) (.cst (.bool false))⟩, 27, []),
    (⟨some 88, none, .mv (.tmp 87)⟩, 28, []),
    (⟨some 89, some (88, true), .mv (.tmp 13)⟩, 29, []),
    (⟨some 90, some (88, true), .idxS (.tmp 89) (.cst (.int .i64 0)) 1⟩, 30, []),
    (⟨some 91, some (88, true), .load (.tmp 90) 1 false⟩, 31, []),
    (⟨some 92, some (88, true), .mv (.tmp 0)⟩, 32, []),
    (⟨some 93, some (88, true), .mv (.tmp 8)⟩, 33, []),
    (⟨some 94, some (88, true), .idxS (.tmp 92) (.tmp 93) 1⟩, 34, []),
    (⟨some 95, some (88, true), .load (.tmp 94) 1 false⟩, 35, []),
    (⟨some 96, some (88, true), .bin .eql .plain (.tmp 91) (.tmp 95)⟩, 36, []),
    (⟨some 97, none, .pick (.tmp 88) (.tmp 96) (.cst (.bool false))⟩, 37, []),
    (⟨some 6, none, .mv (.tmp 97)⟩, 38, [])])
  (.ret)))))))))⟩

theorem tr5 : trF Go.Proofs.Try.prog { obj := [], bare := [], loops := [], draws := [(9, ([0, 1, 3, 7, 15, 31, 63, 127, 255, 511, 1023, 2047, 4095, 8191, 16383, 32767, 65535, 131071, 262143, 524287, 1048575, 2097151, 4194303, 8388607, 16777215, 33554431, 67108863, 134217727, 268435455, 536870911, 1073741823, 2147483647, 536870911, 536870911, 13421772799, 30601641983, 68719476735, 137438953471, 274877906943], [(0, []), (1, []), (2, []), (3, []), (4, []), (5, []), (6, []), (7, []), (8, []), (9, []), (10, []), (11, []), (12, []), (13, []), (14, []), (15, []), (16, []), (17, []), (18, []), (19, []), (20, []), (21, []), (22, []), (23, []), (24, []), (25, []), (26, []), (27, []), (28, []), (29, []), (30, []), (31, []), (32, []), (33, []), (34, []), (35, []), (36, []), (37, []), (38, [])]))], glob := [] } Go.Proofs.Try.f5 = some ir5 := by kernel_rfl

/-- privity/privitylaw11.TapeGenerate -/
def ir6 : IFn := ⟨25, [.tmp 6],
  .seq (.reg [⟨some 6, none, .mv (.cst (.bool false))⟩])
  (.seq (.reg [⟨some 8, none, .mv (.tmp 0)⟩,
    ⟨some 9, none, .call 18 [(.tmp 8)]⟩,
    ⟨some 7, none, .mv (.tmp 9)⟩])
  (.seq (.seq (.reg [⟨some 10, none, .mv (.tmp 2)⟩,
    ⟨some 11, none, .bin .gtr .plain (.tmp 10) (.cst (.int .i64 500))⟩])
  (.cond (.tmp 11)
   (.seq (.reg [⟨some 12, none, .call 8 []⟩,
     ⟨some 6, none, .mv (.tmp 12)⟩])
   (.ret))
   (.skip)))
  (.seq (.reg [⟨some 13, none, .call 8 []⟩,
    ⟨some 14, none, .mv (.tmp 13)⟩,
    ⟨some 15, some (14, true), .mv (.tmp 7)⟩,
    ⟨some 16, some (14, true), .mv (.tmp 1)⟩,
    ⟨some 17, some (14, true), .mv (.tmp 2)⟩,
    ⟨some 18, some (14, true), .call 19 [(.tmp 15), (.tmp 16), (.tmp 17)]⟩,
    ⟨some 19, some (14, true), .mv (.tmp 7)⟩,
    ⟨some 20, some (14, true), .mv (.tmp 1)⟩,
    ⟨some 21, some (14, true), .mv (.tmp 2)⟩,
    ⟨some 22, some (14, true), .call 20 [(.tmp 19), (.tmp 20), (.tmp 21)]⟩,
    ⟨some 23, some (14, true), .call 13 [(.tmp 18), (.tmp 22)]⟩,
    ⟨some 24, none, .pick (.tmp 14) (.tmp 23) (.cst (.bool false))⟩,
    ⟨some 6, none, .mv (.tmp 24)⟩])
  (.ret))))⟩

theorem tr6 : trF Go.Proofs.Try.prog { obj := [], bare := [], loops := [], draws := [], glob := [] } Go.Proofs.Try.f6 = some ir6 := by kernel_rfl

/-- privity/privitylaw11.TapeGeneratePrefix -/
def ir7 : IFn := ⟨68, [.tmp 6],
  .seq (.reg [⟨some 5, none, .box (.tmp 2) false⟩,
    ⟨some 6, none, .mv (.cst (.bool false))⟩])
  (.seq (.reg [⟨some 11, none, .mv (.tmp 0)⟩,
    ⟨some 12, none, .call 18 [(.tmp 11)]⟩,
    ⟨some 7, none, .mv (.tmp 12)⟩])
  (.seq (.reg [⟨some 13, none, .mv (.tmp 7)⟩,
    ⟨some 14, none, .mv (.tmp 1)⟩,
    ⟨some 15, none, .idxP (.tmp 5) (.cst (.int .i64 0)) 2 1⟩,
    ⟨some 16, none, .load (.tmp 15) 1 false⟩,
    ⟨some 17, none, .cvI .i64 (.tmp 16)⟩,
    ⟨some 18, none, .call 19 [(.tmp 13), (.tmp 14), (.tmp 17)]⟩,
    ⟨some 8, none, .mv (.tmp 18)⟩])
  (.seq (.reg [⟨some 19, none, .mv (.tmp 7)⟩,
    ⟨some 20, none, .mv (.tmp 1)⟩,
    ⟨some 21, none, .idxP (.tmp 5) (.cst (.int .i64 0)) 2 1⟩,
    ⟨some 22, none, .load (.tmp 21) 1 false⟩,
    ⟨some 23, none, .cvI .i64 (.tmp 22)⟩,
    ⟨some 24, none, .idxP (.tmp 5) (.cst (.int .i64 1)) 2 1⟩,
    ⟨some 25, none, .load (.tmp 24) 1 false⟩,
    ⟨some 26, none, .cvI .i64 (.tmp 25)⟩,
    ⟨some 27, none, .bin .add .plain (.tmp 23) (.tmp 26)⟩,
    ⟨some 28, none, .call 19 [(.tmp 19), (.tmp 20), (.tmp 27)]⟩,
    ⟨some 9, none, .mv (.tmp 28)⟩])
  (.seq (.seq (.reg [⟨some 29, none, .mv (.tmp 8)⟩,
    ⟨some 30, none, .len .i (.tmp 29)⟩,
    ⟨some 31, none, .idxP (.tmp 5) (.cst (.int .i64 0)) 2 1⟩,
    ⟨some 32, none, .load (.tmp 31) 1 false⟩,
    ⟨some 33, none, .cvI .i64 (.tmp 32)⟩,
    ⟨some 34, none, .bin .neq .plain (.tmp 30) (.tmp 33)⟩,
    ⟨some 35, none, .mv (.tmp 34)⟩,
    ⟨some 36, some (35, false), .mv (.tmp 9)⟩,
    ⟨some 37, some (35, false), .len .i (.tmp 36)⟩,
    ⟨some 38, some (35, false), .mv (.tmp 8)⟩,
    ⟨some 39, some (35, false), .len .i (.tmp 38)⟩,
    ⟨some 40, some (35, false), .idxP (.tmp 5) (.cst (.int .i64 1)) 2 1⟩,
    ⟨some 41, some (35, false), .load (.tmp 40) 1 false⟩,
    ⟨some 42, some (35, false), .cvI .i64 (.tmp 41)⟩,
    ⟨some 43, some (35, false), .bin .add .plain (.tmp 39) (.tmp 42)⟩,
    ⟨some 44, some (35, false), .bin .neq .plain (.tmp 37) (.tmp 43)⟩,
    ⟨some 45, none, .pick (.tmp 35) (.cst (.bool true)) (.tmp 44)⟩,
    ⟨some 46, none, .mv (.tmp 45)⟩,
    ⟨some 47, some (46, false), .mv (.tmp 8)⟩,
    ⟨some 48, some (46, false), .mv (.tmp 9)⟩,
    ⟨some 49, some (46, false), .mv (.tmp 8)⟩,
    ⟨some 50, some (46, false), .len .i (.tmp 49)⟩,
    ⟨some 51, some (46, false), .slc (.tmp 48) none (some (.tmp 50)) none 1⟩,
    ⟨some 52, some (46, false), .call 13 [(.tmp 47), (.tmp 51)]⟩,
    ⟨some 53, some (46, false), .un .not (.tmp 52)⟩,
    ⟨some 54, none, .pick (.tmp 46) (.cst (.bool true)) (.tmp 53)⟩])
  (.cond (.tmp 54)
   (.seq (.reg [⟨some 6, none, .mv (.cst (.bool false))⟩])
   (.ret))
   (.skip)))
  (.seq (.seq (.reg [⟨some 10, none, .mv (.cst (.int .i64 0))⟩])
  (.block 0
   (.loop [7, 9, 10]
    (.seq (.seq (.reg [⟨some 55, none, .mv (.tmp 10)⟩,
      ⟨some 56, none, .mv (.tmp 9)⟩,
      ⟨some 57, none, .len .i (.tmp 56)⟩,
      ⟨some 58, none, .bin .lss .plain (.tmp 55) (.tmp 57)⟩])
    (.cond (.tmp 58)
     (.skip)
     (.brk 0)))
    (.seq (.block 1
     (.seq (.reg [⟨some 61, none, .mv (.tmp 9)⟩,
       ⟨some 62, none, .mv (.tmp 10)⟩,
       ⟨some 63, none, .idxS (.tmp 61) (.tmp 62) 1⟩,
       ⟨some 64, none, .load (.tmp 63) 1 false⟩,
       ⟨some 65, none, .mv (.tmp 7)⟩,
       ⟨some 66, none, .bin .geq .plain (.tmp 64) (.tmp 65)⟩])
     (.cond (.tmp 66)
      (.seq (.reg [⟨some 6, none, .mv (.cst (.bool false))⟩])
      (.ret))
      (.skip))))
    (.reg [⟨some 59, none, .mv (.tmp 10)⟩,
      ⟨some 60, none, .bin .add .plain (.tmp 59) (.cst (.int .i64 1))⟩,
      ⟨some 10, none, .mv (.tmp 60)⟩]))))))
  (.seq (.reg [⟨some 67, none, .call 8 []⟩,
    ⟨some 6, none, .mv (.tmp 67)⟩])
  (.ret)))))))⟩

theorem tr7 : trF Go.Proofs.Try.prog { obj := [], bare := [], loops := [[7, 9, 10]], draws := [], glob := [] } Go.Proofs.Try.f7 = some ir7 := by kernel_rfl

/-- privity/privitylaw11.awake -/
def ir8 : IFn := ⟨62, [.tmp 0],
  .seq (.reg [⟨some 0, none, .mv (.cst (.bool false))⟩])
  (.seq (.reg [⟨some 9, none, .bsl 3 1 false [(.int .u64 0)] [(0, 1, (.cst (.int .u64 5))), (1, 1, (.cst (.int .u64 6))), (2, 1, (.cst (.int .u64 7)))]⟩,
    ⟨some 10, none, .call 9 [(.tmp 9)]⟩,
    ⟨some 1, none, .mv (.tmp 10)⟩])
  (.seq (.reg [⟨some 12, none, .mv (.tmp 1)⟩,
    ⟨some 13, none, .call 11 [(.tmp 12), (.cst (.int .i64 2))]⟩,
    ⟨some 11, none, .mv (.tmp 13)⟩,
    ⟨some 14, none, .ext (.tmp 11) 0⟩,
    ⟨some 15, none, .ext (.tmp 11) 1⟩,
    ⟨some 2, none, .mv (.tmp 14)⟩,
    ⟨some 3, none, .mv (.tmp 15)⟩])
  (.seq (.reg [⟨some 17, none, .mv (.tmp 1)⟩,
    ⟨some 18, none, .call 11 [(.tmp 17), (.cst (.int .i64 2))]⟩,
    ⟨some 16, none, .mv (.tmp 18)⟩,
    ⟨some 19, none, .ext (.tmp 16) 0⟩,
    ⟨some 20, none, .ext (.tmp 16) 1⟩,
    ⟨some 4, none, .mv (.tmp 19)⟩,
    ⟨some 5, none, .mv (.tmp 20)⟩])
  (.seq (.reg [⟨some 21, none, .mv (.tmp 1)⟩,
    ⟨some 22, none, .call 14 [(.tmp 21)]⟩,
    ⟨some 6, none, .mv (.tmp 22)⟩])
  (.seq (.reg [⟨some 24, none, .mv (.tmp 1)⟩,
    ⟨some 25, none, .call 11 [(.tmp 24), (.cst (.int .i64 1))]⟩,
    ⟨some 23, none, .mv (.tmp 25)⟩,
    ⟨some 26, none, .ext (.tmp 23) 0⟩,
    ⟨some 27, none, .ext (.tmp 23) 1⟩,
    ⟨some 7, none, .mv (.tmp 26)⟩,
    ⟨some 8, none, .mv (.tmp 27)⟩])
  (.seq (.reg [⟨some 28, none, .mv (.tmp 3)⟩,
    ⟨some 29, none, .bin .eql .plain (.tmp 28) (.cst (.int .i64 0))⟩,
    ⟨some 30, none, .mv (.tmp 29)⟩,
    ⟨some 31, some (30, true), .mv (.tmp 2)⟩,
    ⟨some 32, some (30, true), .bsl 2 1 false [(.int .u64 0)] [(0, 1, (.cst (.int .u64 5))), (1, 1, (.cst (.int .u64 6)))]⟩,
    ⟨some 33, some (30, true), .call 13 [(.tmp 31), (.tmp 32)]⟩,
    ⟨some 34, none, .pick (.tmp 30) (.tmp 33) (.cst (.bool false))⟩,
    ⟨some 35, none, .mv (.tmp 34)⟩,
    ⟨some 36, some (35, true), .mv (.tmp 5)⟩,
    ⟨some 37, some (35, true), .bin .eql .plain (.tmp 36) (.cst (.int .i64 10))⟩,
    ⟨some 38, none, .pick (.tmp 35) (.tmp 37) (.cst (.bool false))⟩,
    ⟨some 39, none, .mv (.tmp 38)⟩,
    ⟨some 40, some (39, true), .mv (.tmp 4)⟩,
    ⟨some 41, some (39, true), .len .i (.tmp 40)⟩,
    ⟨some 42, some (39, true), .bin .eql .plain (.tmp 41) (.cst (.int .i64 0))⟩,
    ⟨some 43, none, .pick (.tmp 39) (.tmp 42) (.cst (.bool false))⟩,
    ⟨some 44, none, .mv (.tmp 43)⟩,
    ⟨some 45, some (44, true), .mv (.tmp 6)⟩,
    ⟨some 46, some (44, true), .bin .eql .plain (.tmp 45) (.cst (.int .i64 1))⟩,
    ⟨some 47, none, .pick (.tmp 44) (.tmp 46) (.cst (.bool false))⟩,
    ⟨some 48, none, .mv (.tmp 47)⟩,
    ⟨some 49, some (48, true), .mv (.tmp 8)⟩,
    ⟨some 50, some (48, true), .bin .eql .plain (.tmp 49) (.cst (.int .i64 0))⟩,
    ⟨some 51, none, .pick (.tmp 48) (.tmp 50) (.cst (.bool false))⟩,
    ⟨some 52, none, .mv (.tmp 51)⟩,
    ⟨some 53, some (52, true), .mv (.tmp 7)⟩,
    ⟨some 54, some (52, true), .bsl 1 1 false [(.int .u64 0)] [(0, 1, (.cst (.int .u64 7)))]⟩,
    ⟨some 55, some (52, true), .call 13 [(.tmp 53), (.tmp 54)]⟩,
    ⟨some 56, none, .pick (.tmp 52) (.tmp 55) (.cst (.bool false))⟩,
    ⟨some 57, none, .mv (.tmp 56)⟩,
    ⟨some 58, some (57, true), .mv (.tmp 1)⟩,
    ⟨some 59, some (57, true), .call 16 [(.tmp 58)]⟩,
    ⟨some 60, some (57, true), .bin .eql .plain (.tmp 59) (.cst (.int .i64 3))⟩,
    ⟨some 61, none, .pick (.tmp 57) (.tmp 60) (.cst (.bool false))⟩,
    ⟨some 0, none, .mv (.tmp 61)⟩])
  (.ret)))))))⟩

theorem tr8 : trF Go.Proofs.Try.prog { obj := [], bare := [], loops := [], draws := [], glob := [] } Go.Proofs.Try.f8 = some ir8 := by kernel_rfl

/-- privity/tape.New -/
def ir9 : IFn := ⟨6, [.tmp 2],
  .seq (.reg [⟨some 2, none, .mv (.cst .nilptr)⟩])
  (.seq (.reg [⟨some 3, none, .mv (.tmp 0)⟩,
    ⟨some 4, none, .bld [(.vec [] .full), (.int .i64 0)] [(0, 1, (.tmp 3))]⟩,
    ⟨some 5, none, .box (.tmp 4) true⟩,
    ⟨some 2, none, .mv (.tmp 5)⟩])
  (.ret))⟩

theorem tr9 : trF Go.Proofs.Try.prog { obj := [5], bare := [], loops := [], draws := [], glob := [] } Go.Proofs.Try.f9 = some ir9 := by kernel_rfl

/-- privity/privityref11.New -/
def ir10 : IFn := ⟨8, [.tmp 2],
  .seq (.reg [⟨some 2, none, .mv (.cst .nilptr)⟩])
  (.seq (.reg [⟨some 3, none, .bsl 0 1 false [(.int .u64 0)] []⟩,
    ⟨some 4, none, .mv (.tmp 0)⟩,
    ⟨some 5, none, .app (.tmp 3) (.tmp 4) 1 8 false false⟩,
    ⟨some 6, none, .bld [(.vec [] .full), (.int .i64 0)] [(0, 1, (.tmp 5))]⟩,
    ⟨some 7, none, .box (.tmp 6) true⟩,
    ⟨some 2, none, .mv (.tmp 7)⟩])
  (.ret))⟩

theorem tr10 : trF Go.Proofs.Try.prog { obj := [7], bare := [], loops := [], draws := [], glob := [] } Go.Proofs.Try.f10 = some ir10 := by kernel_rfl

/-- (*privity/tape.Tape).Take -/
def ir11 : IFn := ⟨41, [.tmp 4, .tmp 5],
  .seq (.reg [⟨some 4, none, .mv (.cst (.vec [] .full))⟩,
    ⟨some 5, none, .mv (.cst (.int .i64 0))⟩])
  (.seq (.seq (.reg [⟨some 7, none, .mv (.tmp 1)⟩,
    ⟨some 8, none, .bin .lss .plain (.tmp 7) (.cst (.int .i64 0))⟩,
    ⟨some 9, none, .mv (.tmp 8)⟩,
    ⟨some 10, some (9, false), .mv (.tmp 1)⟩,
    ⟨some 11, some (9, false), .mv (.tmp 0)⟩,
    ⟨some 12, some (9, false), .call 14 [(.tmp 11)]⟩,
    ⟨some 13, some (9, false), .bin .gtr .plain (.tmp 10) (.tmp 12)⟩,
    ⟨some 14, none, .pick (.tmp 9) (.cst (.bool true)) (.tmp 13)⟩])
  (.cond (.tmp 14)
   (.seq (.reg [⟨some 4, none, .mv (.cst (.vec [] .full))⟩,
     ⟨some 5, none, .mv (.cst (.int .i64 10))⟩])
   (.ret))
   (.skip)))
  (.seq (.reg [⟨some 15, none, .mv (.tmp 0)⟩,
    ⟨some 16, none, .nilc (.tmp 15)⟩,
    ⟨some 17, none, .fad (.tmp 16) 1⟩,
    ⟨some 18, none, .load (.tmp 17) 1 false⟩,
    ⟨some 6, none, .mv (.tmp 18)⟩])
  (.seq (.reg [⟨some 19, none, .mv (.tmp 0)⟩,
    ⟨some 20, none, .nilc (.tmp 19)⟩,
    ⟨some 21, none, .fad (.tmp 20) 1⟩,
    ⟨some 22, none, .load (.tmp 21) 1 false⟩,
    ⟨some 23, none, .mv (.tmp 1)⟩,
    ⟨some 24, none, .bin .add .plain (.tmp 22) (.tmp 23)⟩,
    ⟨some 25, none, .nilc (.tmp 19)⟩,
    ⟨some 26, none, .fad (.tmp 25) 1⟩,
    ⟨none, none, .store (.tmp 26) (.tmp 24) 1⟩])
  (.seq (.draw [(⟨some 27, none, .mv (.tmp 0)⟩, 0, []),
    (⟨some 28, none, .nilc (.tmp 27)⟩, 1, []),
    (⟨some 29, none, .fad (.tmp 28) 0⟩, 2, []),
    (⟨some 30, none, .load (.tmp 29) 1 false⟩, 3, []),
    (⟨some 31, none, .mv (.tmp 6)⟩, 4, []),
    (⟨some 32, none, .mv (.tmp 0)⟩, 5, []),
    (⟨some 33, none, .nilc (.tmp 32)⟩, 6, []),
    (⟨some 34, none, .fad (.tmp 33) 1⟩, 7, []),
    (⟨some 35, none, .load (.tmp 34) 1 false⟩, 8, []),
    (⟨some 36, none, .mv (.tmp 0)⟩, 9, []),
    (⟨some 37, none, .nilc (.tmp 36)⟩, 10, []),
    (⟨some 38, none, .fad (.tmp 37) 1⟩, 11, []),
    (⟨some 39, none, .load (.tmp 38) 1 false⟩, 12, []),
    (⟨some 40, none, .slc (.tmp 30) (some (.tmp 31)) (some (.tmp 35)) (some (.tmp 39)) 1⟩, 13, []),
    (⟨some 4, none, .mv (.tmp 40)⟩, 14, []),
    (⟨some 5, none, .mv (.cst (.int .i64 0))⟩, 15, [])])
  (.ret)))))⟩

theorem tr11 : trF Go.Proofs.Try.prog { obj := [], bare := [], loops := [], draws := [(5, ([0, 1, 3, 7, 0, 0, 32, 96, 224, 0, 512, 1536, 3584, 8191, 16383, 32767], [(0, []), (1, []), (2, []), (3, []), (4, []), (5, []), (6, []), (7, []), (8, []), (9, []), (10, []), (11, []), (12, []), (13, []), (14, []), (15, [])]))], glob := [] } Go.Proofs.Try.f11 = some ir11 := by kernel_rfl

/-- (*privity/privityref11.Tape).Take -/
def ir12 : IFn := ⟨42, [.tmp 4, .tmp 5],
  .seq (.reg [⟨some 4, none, .mv (.cst (.vec [] .full))⟩,
    ⟨some 5, none, .mv (.cst (.int .i64 0))⟩])
  (.seq (.seq (.reg [⟨some 7, none, .mv (.tmp 1)⟩,
    ⟨some 8, none, .bin .lss .plain (.tmp 7) (.cst (.int .i64 0))⟩,
    ⟨some 9, none, .mv (.tmp 8)⟩,
    ⟨some 10, some (9, false), .mv (.tmp 1)⟩,
    ⟨some 11, some (9, false), .mv (.tmp 0)⟩,
    ⟨some 12, some (9, false), .call 15 [(.tmp 11)]⟩,
    ⟨some 13, some (9, false), .bin .gtr .plain (.tmp 10) (.tmp 12)⟩,
    ⟨some 14, none, .pick (.tmp 9) (.cst (.bool true)) (.tmp 13)⟩])
  (.cond (.tmp 14)
   (.seq (.reg [⟨some 4, none, .mv (.cst (.vec [] .full))⟩,
     ⟨some 5, none, .mv (.cst (.int .i64 10))⟩])
   (.ret))
   (.skip)))
  (.seq (.draw [(⟨some 15, none, .bsl 0 1 false [(.int .u64 0)] []⟩, 0, []),
    (⟨some 16, none, .mv (.tmp 0)⟩, 1, []),
    (⟨some 17, none, .nilc (.tmp 16)⟩, 2, []),
    (⟨some 18, none, .fad (.tmp 17) 0⟩, 3, []),
    (⟨some 19, none, .load (.tmp 18) 1 false⟩, 4, []),
    (⟨some 20, none, .mv (.tmp 0)⟩, 5, []),
    (⟨some 21, none, .nilc (.tmp 20)⟩, 6, []),
    (⟨some 22, none, .fad (.tmp 21) 1⟩, 7, []),
    (⟨some 23, none, .load (.tmp 22) 1 false⟩, 8, []),
    (⟨some 24, none, .mv (.tmp 0)⟩, 9, []),
    (⟨some 25, none, .nilc (.tmp 24)⟩, 10, []),
    (⟨some 26, none, .fad (.tmp 25) 1⟩, 11, []),
    (⟨some 27, none, .load (.tmp 26) 1 false⟩, 12, []),
    (⟨some 28, none, .mv (.tmp 1)⟩, 13, []),
    (⟨some 29, none, .bin .add .plain (.tmp 27) (.tmp 28)⟩, 14, []),
    (⟨some 30, none, .slc (.tmp 19) (some (.tmp 23)) (some (.tmp 29)) none 1⟩, 15, []),
    (⟨some 31, none, .app (.tmp 15) (.tmp 30) 1 8 false false⟩, 16, []),
    (⟨some 6, none, .mv (.tmp 31)⟩, 17, [])])
  (.seq (.reg [⟨some 32, none, .mv (.tmp 0)⟩,
    ⟨some 33, none, .mv (.tmp 0)⟩,
    ⟨some 34, none, .nilc (.tmp 33)⟩,
    ⟨some 35, none, .fad (.tmp 34) 1⟩,
    ⟨some 36, none, .load (.tmp 35) 1 false⟩,
    ⟨some 37, none, .mv (.tmp 1)⟩,
    ⟨some 38, none, .bin .add .plain (.tmp 36) (.tmp 37)⟩,
    ⟨some 39, none, .nilc (.tmp 32)⟩,
    ⟨some 40, none, .fad (.tmp 39) 1⟩,
    ⟨none, none, .store (.tmp 40) (.tmp 38) 1⟩])
  (.seq (.reg [⟨some 41, none, .mv (.tmp 6)⟩,
    ⟨some 4, none, .mv (.tmp 41)⟩,
    ⟨some 5, none, .mv (.cst (.int .i64 0))⟩])
  (.ret)))))⟩

theorem tr12 : trF Go.Proofs.Try.prog { obj := [], bare := [], loops := [], draws := [(3, ([0, 0, 2, 6, 14, 0, 32, 96, 224, 0, 512, 1536, 3584, 0, 15872, 32766, 65535, 131071], [(0, []), (1, []), (2, []), (3, []), (4, []), (5, []), (6, []), (7, []), (8, []), (9, []), (10, []), (11, []), (12, []), (13, []), (14, []), (15, []), (16, []), (17, [])]))], glob := [] } Go.Proofs.Try.f12 = some ir12 := by kernel_rfl

/-- privity/privityref11.Same -/
def ir13 : IFn := ⟨26, [.tmp 4],
  .seq (.reg [⟨some 4, none, .mv (.cst (.bool false))⟩])
  (.seq (.seq (.reg [⟨some 6, none, .mv (.tmp 0)⟩,
    ⟨some 7, none, .len .i (.tmp 6)⟩,
    ⟨some 8, none, .mv (.tmp 1)⟩,
    ⟨some 9, none, .len .i (.tmp 8)⟩,
    ⟨some 10, none, .bin .neq .plain (.tmp 7) (.tmp 9)⟩])
  (.cond (.tmp 10)
   (.seq (.reg [⟨some 4, none, .mv (.cst (.bool false))⟩])
   (.ret))
   (.skip)))
  (.seq (.seq (.reg [⟨some 5, none, .mv (.cst (.int .i64 0))⟩])
  (.block 0
   (.loop [0, 1, 5]
    (.seq (.seq (.reg [⟨some 11, none, .mv (.tmp 5)⟩,
      ⟨some 12, none, .mv (.tmp 0)⟩,
      ⟨some 13, none, .len .i (.tmp 12)⟩,
      ⟨some 14, none, .bin .lss .plain (.tmp 11) (.tmp 13)⟩])
    (.cond (.tmp 14)
     (.skip)
     (.brk 0)))
    (.seq (.block 1
     (.seq (.draw [(⟨some 17, none, .mv (.tmp 0)⟩, 0, []),
       (⟨some 18, none, .mv (.tmp 5)⟩, 1, []),
       (⟨some 19, none, .idxS (.tmp 17) (.tmp 18) 1⟩, 2, []),
       (⟨some 20, none, .load (.tmp 19) 1 false⟩, 3, []),
       (⟨some 21, none, .mv (.tmp 1)⟩, 4, []),
       (⟨some 22, none, .mv (.tmp 5)⟩, 5, []),
       (⟨some 23, none, .idxS (.tmp 21) (.tmp 22) 1⟩, 6, []),
       (⟨some 24, none, .load (.tmp 23) 1 false⟩, 7, []),
       (⟨some 25, none, .bin .neq .plain (.tmp 20) (.tmp 24)⟩, 8, [])])
     (.cond (.tmp 25)
      (.seq (.reg [⟨some 4, none, .mv (.cst (.bool false))⟩])
      (.ret))
      (.skip))))
    (.reg [⟨some 15, none, .mv (.tmp 5)⟩,
      ⟨some 16, none, .bin .add .plain (.tmp 15) (.cst (.int .i64 1))⟩,
      ⟨some 5, none, .mv (.tmp 16)⟩]))))))
  (.seq (.reg [⟨some 4, none, .mv (.cst (.bool true))⟩])
  (.ret))))⟩

theorem tr13 : trF Go.Proofs.Try.prog { obj := [], bare := [], loops := [[0, 1, 5]], draws := [(6, ([0, 0, 3, 7, 0, 0, 48, 112, 255], [(0, []), (1, []), (2, []), (3, []), (4, []), (5, []), (6, []), (7, []), (8, [])]))], glob := [] } Go.Proofs.Try.f13 = some ir13 := by kernel_rfl

/-- (*privity/tape.Tape).Remaining -/
def ir14 : IFn := ⟨13, [.tmp 2],
  .seq (.reg [⟨some 2, none, .mv (.cst (.int .i64 0))⟩])
  (.seq (.draw [(⟨some 3, none, .mv (.tmp 0)⟩, 0, []),
    (⟨some 4, none, .nilc (.tmp 3)⟩, 1, []),
    (⟨some 5, none, .fad (.tmp 4) 0⟩, 2, []),
    (⟨some 6, none, .load (.tmp 5) 1 false⟩, 3, []),
    (⟨some 7, none, .len .i (.tmp 6)⟩, 4, []),
    (⟨some 8, none, .mv (.tmp 0)⟩, 5, []),
    (⟨some 9, none, .nilc (.tmp 8)⟩, 6, []),
    (⟨some 10, none, .fad (.tmp 9) 1⟩, 7, []),
    (⟨some 11, none, .load (.tmp 10) 1 false⟩, 8, []),
    (⟨some 12, none, .bin .sub .plain (.tmp 7) (.tmp 11)⟩, 9, []),
    (⟨some 2, none, .mv (.tmp 12)⟩, 10, [])])
  (.ret))⟩

theorem tr14 : trF Go.Proofs.Try.prog { obj := [], bare := [], loops := [], draws := [(1, ([0, 1, 3, 7, 15, 0, 32, 96, 224, 511, 1023], [(0, []), (1, []), (2, []), (3, []), (4, []), (5, []), (6, []), (7, []), (8, []), (9, []), (10, [])]))], glob := [] } Go.Proofs.Try.f14 = some ir14 := by kernel_rfl

/-- (*privity/privityref11.Tape).Remaining -/
def ir15 : IFn := ⟨13, [.tmp 2],
  .seq (.reg [⟨some 2, none, .mv (.cst (.int .i64 0))⟩])
  (.seq (.draw [(⟨some 3, none, .mv (.tmp 0)⟩, 0, []),
    (⟨some 4, none, .nilc (.tmp 3)⟩, 1, []),
    (⟨some 5, none, .fad (.tmp 4) 0⟩, 2, []),
    (⟨some 6, none, .load (.tmp 5) 1 false⟩, 3, []),
    (⟨some 7, none, .len .i (.tmp 6)⟩, 4, []),
    (⟨some 8, none, .mv (.tmp 0)⟩, 5, []),
    (⟨some 9, none, .nilc (.tmp 8)⟩, 6, []),
    (⟨some 10, none, .fad (.tmp 9) 1⟩, 7, []),
    (⟨some 11, none, .load (.tmp 10) 1 false⟩, 8, []),
    (⟨some 12, none, .bin .sub .plain (.tmp 7) (.tmp 11)⟩, 9, []),
    (⟨some 2, none, .mv (.tmp 12)⟩, 10, [])])
  (.ret))⟩

theorem tr15 : trF Go.Proofs.Try.prog { obj := [], bare := [], loops := [], draws := [(1, ([0, 1, 3, 7, 15, 0, 32, 96, 224, 511, 1023], [(0, []), (1, []), (2, []), (3, []), (4, []), (5, []), (6, []), (7, []), (8, []), (9, []), (10, [])]))], glob := [] } Go.Proofs.Try.f15 = some ir15 := by kernel_rfl

/-- (*privity/tape.Tape).Consumed -/
def ir16 : IFn := ⟨7, [.tmp 2],
  .seq (.reg [⟨some 2, none, .mv (.cst (.int .i64 0))⟩])
  (.seq (.reg [⟨some 3, none, .mv (.tmp 0)⟩,
    ⟨some 4, none, .nilc (.tmp 3)⟩,
    ⟨some 5, none, .fad (.tmp 4) 1⟩,
    ⟨some 6, none, .load (.tmp 5) 1 false⟩,
    ⟨some 2, none, .mv (.tmp 6)⟩])
  (.ret))⟩

theorem tr16 : trF Go.Proofs.Try.prog { obj := [], bare := [], loops := [], draws := [], glob := [] } Go.Proofs.Try.f16 = some ir16 := by kernel_rfl

/-- (*privity/privityref11.Tape).Consumed -/
def ir17 : IFn := ⟨7, [.tmp 2],
  .seq (.reg [⟨some 2, none, .mv (.cst (.int .i64 0))⟩])
  (.seq (.reg [⟨some 3, none, .mv (.tmp 0)⟩,
    ⟨some 4, none, .nilc (.tmp 3)⟩,
    ⟨some 5, none, .fad (.tmp 4) 1⟩,
    ⟨some 6, none, .load (.tmp 5) 1 false⟩,
    ⟨some 2, none, .mv (.tmp 6)⟩])
  (.ret))⟩

theorem tr17 : trF Go.Proofs.Try.prog { obj := [], bare := [], loops := [], draws := [], glob := [] } Go.Proofs.Try.f17 = some ir17 := by kernel_rfl

/-- privity/privityref01.Fit -/
def ir18 : IFn := ⟨17, [.tmp 2],
  .seq (.reg [⟨some 2, none, .mv (.cst (.int .u64 0))⟩])
  (.seq (.reg [⟨some 4, none, .call 21 []⟩,
    ⟨some 3, none, .mv (.tmp 4)⟩])
  (.seq (.reg [⟨some 5, none, .mv (.tmp 3)⟩,
    ⟨some 6, none, .mv (.tmp 0)⟩,
    ⟨some 7, none, .mv (.tmp 3)⟩,
    ⟨some 8, none, .len .i (.tmp 7)⟩,
    ⟨some 9, none, .cvI .u64 (.tmp 8)⟩,
    ⟨some 10, none, .bin .rem .plain (.tmp 6) (.tmp 9)⟩,
    ⟨some 11, none, .cvI .i64 (.tmp 10)⟩,
    ⟨some 12, none, .idxS (.tmp 5) (.tmp 11) 1⟩,
    ⟨some 13, none, .load (.tmp 12) 1 false⟩,
    ⟨some 14, none, .cvI .u64 (.tmp 13)⟩,
    ⟨some 15, none, .bin .shl .plain (.cst (.int .u64 1)) (.tmp 14)⟩,
    ⟨some 16, none, .bin .sub .plain (.tmp 15) (.cst (.int .u64 1))⟩,
    ⟨some 2, none, .mv (.tmp 16)⟩])
  (.ret)))⟩

theorem tr18 : trF Go.Proofs.Try.prog { obj := [], bare := [], loops := [], draws := [], glob := [] } Go.Proofs.Try.f18 = some ir18 := by kernel_rfl

/-- privity/tape.Generate -/
def ir19 : IFn := ⟨45, [.tmp 6],
  .seq (.reg [⟨some 6, none, .mv (.cst (.vec [] .full))⟩])
  (.seq (.reg [⟨some 7, none, .mv (.cst (.vec [] .full))⟩])
  (.seq (.seq (.reg [⟨some 10, none, .mv (.tmp 2)⟩,
    ⟨some 11, none, .max [(.tmp 10), (.cst (.int .i64 0))]⟩,
    ⟨some 12, none, .mv (.cst (.int .i64 0))⟩])
  (.block 0
   (.loop [0, 1, 7, 11, 12]
    (.seq (.reg [⟨some 13, none, .bin .lss .plain (.tmp 12) (.tmp 11)⟩])
    (.seq (.cond (.tmp 13)
     (.skip)
     (.brk 0))
    (.seq (.block 1
     (.seq (.reg [⟨some 14, none, .mv (.tmp 12)⟩,
       ⟨some 8, none, .mv (.tmp 14)⟩])
     (.seq (.reg [⟨some 15, none, .mv (.tmp 1)⟩,
       ⟨some 16, none, .mv (.tmp 8)⟩,
       ⟨some 17, none, .bin .add .plain (.tmp 16) (.cst (.int .i64 1))⟩,
       ⟨some 18, none, .cvI .u64 (.tmp 17)⟩,
       ⟨some 19, none, .bin .mul .plain (.tmp 18) (.cst (.int .u64 11400714819323198485))⟩,
       ⟨some 20, none, .bin .add .plain (.tmp 15) (.tmp 19)⟩,
       ⟨some 9, none, .mv (.tmp 20)⟩])
     (.seq (.reg [⟨some 21, none, .mv (.tmp 9)⟩,
       ⟨some 22, none, .mv (.tmp 9)⟩,
       ⟨some 23, none, .bin .shr .plain (.tmp 22) (.cst (.int .u64 32))⟩,
       ⟨some 24, none, .bin .xor .plain (.tmp 21) (.tmp 23)⟩,
       ⟨some 9, none, .mv (.tmp 24)⟩])
     (.seq (.reg [⟨some 25, none, .mv (.tmp 9)⟩,
       ⟨some 26, none, .bin .mul .plain (.tmp 25) (.cst (.int .u64 14029467366897019727))⟩,
       ⟨some 9, none, .mv (.tmp 26)⟩])
     (.seq (.reg [⟨some 27, none, .mv (.tmp 9)⟩,
       ⟨some 28, none, .mv (.tmp 9)⟩,
       ⟨some 29, none, .bin .shr .plain (.tmp 28) (.cst (.int .u64 29))⟩,
       ⟨some 30, none, .bin .xor .plain (.tmp 27) (.tmp 29)⟩,
       ⟨some 9, none, .mv (.tmp 30)⟩])
     (.seq (.reg [⟨some 31, none, .mv (.tmp 9)⟩,
       ⟨some 32, none, .bin .mul .plain (.tmp 31) (.cst (.int .u64 1609587929392839161))⟩,
       ⟨some 9, none, .mv (.tmp 32)⟩])
     (.seq (.reg [⟨some 33, none, .mv (.tmp 9)⟩,
       ⟨some 34, none, .mv (.tmp 9)⟩,
       ⟨some 35, none, .bin .shr .plain (.tmp 34) (.cst (.int .u64 32))⟩,
       ⟨some 36, none, .bin .xor .plain (.tmp 33) (.tmp 35)⟩,
       ⟨some 9, none, .mv (.tmp 36)⟩])
     (.reg [⟨some 37, none, .mv (.tmp 7)⟩,
       ⟨some 38, none, .mv (.tmp 0)⟩,
       ⟨some 39, none, .mv (.tmp 9)⟩,
       ⟨some 40, none, .call 22 [(.tmp 38), (.tmp 39)]⟩,
       ⟨some 41, none, .bsl 1 1 false [(.int .u64 0)] [(0, 1, (.tmp 40))]⟩,
       ⟨some 42, none, .app (.tmp 37) (.tmp 41) 1 8 false false⟩,
       ⟨some 7, none, .mv (.tmp 42)⟩])))))))))
    (.reg [⟨some 43, none, .bin .add .plain (.tmp 12) (.cst (.int .i64 1))⟩,
      ⟨some 12, none, .mv (.tmp 43)⟩])))))))
  (.seq (.reg [⟨some 44, none, .mv (.tmp 7)⟩,
    ⟨some 6, none, .mv (.tmp 44)⟩])
  (.ret))))⟩

theorem tr19 : trF Go.Proofs.Try.prog { obj := [], bare := [], loops := [[0, 1, 7, 11, 12]], draws := [], glob := [] } Go.Proofs.Try.f19 = some ir19 := by kernel_rfl

/-- privity/privityref11.Generate -/
def ir20 : IFn := ⟨44, [.tmp 6],
  .seq (.reg [⟨some 6, none, .mv (.cst (.vec [] .full))⟩])
  (.seq (.reg [⟨some 7, none, .mv (.cst (.vec [] .full))⟩])
  (.seq (.seq (.reg [⟨some 8, none, .mv (.cst (.int .i64 0))⟩])
  (.block 0
   (.loop [0, 1, 2, 7, 8]
    (.seq (.seq (.reg [⟨some 10, none, .mv (.tmp 8)⟩,
      ⟨some 11, none, .mv (.tmp 2)⟩,
      ⟨some 12, none, .bin .lss .plain (.tmp 10) (.tmp 11)⟩])
    (.cond (.tmp 12)
     (.skip)
     (.brk 0)))
    (.seq (.block 1
     (.seq (.reg [⟨some 15, none, .mv (.tmp 1)⟩,
       ⟨some 16, none, .mv (.tmp 8)⟩,
       ⟨some 17, none, .bin .add .plain (.tmp 16) (.cst (.int .i64 1))⟩,
       ⟨some 18, none, .cvI .u64 (.tmp 17)⟩,
       ⟨some 19, none, .bin .mul .plain (.tmp 18) (.cst (.int .u64 11400714819323198485))⟩,
       ⟨some 20, none, .bin .add .plain (.tmp 15) (.tmp 19)⟩,
       ⟨some 9, none, .mv (.tmp 20)⟩])
     (.seq (.reg [⟨some 21, none, .mv (.tmp 9)⟩,
       ⟨some 22, none, .mv (.tmp 9)⟩,
       ⟨some 23, none, .bin .shr .plain (.tmp 22) (.cst (.int .u64 32))⟩,
       ⟨some 24, none, .bin .xor .plain (.tmp 21) (.tmp 23)⟩,
       ⟨some 9, none, .mv (.tmp 24)⟩])
     (.seq (.reg [⟨some 25, none, .mv (.tmp 9)⟩,
       ⟨some 26, none, .bin .mul .plain (.tmp 25) (.cst (.int .u64 14029467366897019727))⟩,
       ⟨some 9, none, .mv (.tmp 26)⟩])
     (.seq (.reg [⟨some 27, none, .mv (.tmp 9)⟩,
       ⟨some 28, none, .mv (.tmp 9)⟩,
       ⟨some 29, none, .bin .shr .plain (.tmp 28) (.cst (.int .u64 29))⟩,
       ⟨some 30, none, .bin .xor .plain (.tmp 27) (.tmp 29)⟩,
       ⟨some 9, none, .mv (.tmp 30)⟩])
     (.seq (.reg [⟨some 31, none, .mv (.tmp 9)⟩,
       ⟨some 32, none, .bin .mul .plain (.tmp 31) (.cst (.int .u64 1609587929392839161))⟩,
       ⟨some 9, none, .mv (.tmp 32)⟩])
     (.seq (.reg [⟨some 33, none, .mv (.tmp 9)⟩,
       ⟨some 34, none, .mv (.tmp 9)⟩,
       ⟨some 35, none, .bin .shr .plain (.tmp 34) (.cst (.int .u64 32))⟩,
       ⟨some 36, none, .bin .xor .plain (.tmp 33) (.tmp 35)⟩,
       ⟨some 9, none, .mv (.tmp 36)⟩])
     (.reg [⟨some 37, none, .mv (.tmp 7)⟩,
       ⟨some 38, none, .mv (.tmp 9)⟩,
       ⟨some 39, none, .mv (.tmp 0)⟩,
       ⟨some 40, none, .bin .rem .plain (.tmp 38) (.tmp 39)⟩,
       ⟨some 41, none, .bsl 1 1 false [(.int .u64 0)] [(0, 1, (.tmp 40))]⟩,
       ⟨some 42, none, .app (.tmp 37) (.tmp 41) 1 8 false false⟩,
       ⟨some 7, none, .mv (.tmp 42)⟩]))))))))
    (.reg [⟨some 13, none, .mv (.tmp 8)⟩,
      ⟨some 14, none, .bin .add .plain (.tmp 13) (.cst (.int .i64 1))⟩,
      ⟨some 8, none, .mv (.tmp 14)⟩]))))))
  (.seq (.reg [⟨some 43, none, .mv (.tmp 7)⟩,
    ⟨some 6, none, .mv (.tmp 43)⟩])
  (.ret))))⟩

theorem tr20 : trF Go.Proofs.Try.prog { obj := [], bare := [], loops := [[0, 1, 2, 7, 8]], draws := [], glob := [] } Go.Proofs.Try.f20 = some ir20 := by kernel_rfl

/-- privity/privityref01.exps -/
def ir21 : IFn := ⟨2, [.tmp 0],
  .seq (.reg [⟨some 0, none, .mv (.cst (.vec [] .full))⟩])
  (.seq (.reg [⟨some 1, none, .bsl 7 1 false [(.int .i64 0)] [(0, 1, (.cst (.int .i64 5))), (1, 1, (.cst (.int .i64 7))), (2, 1, (.cst (.int .i64 13))), (3, 1, (.cst (.int .i64 17))), (4, 1, (.cst (.int .i64 19))), (5, 1, (.cst (.int .i64 31))), (6, 1, (.cst (.int .i64 61)))]⟩,
    ⟨some 0, none, .mv (.tmp 1)⟩])
  (.ret))⟩

theorem tr21 : trF Go.Proofs.Try.prog { obj := [], bare := [], loops := [], draws := [], glob := [] } Go.Proofs.Try.f21 = some ir21 := by kernel_rfl

/-- privity/field.Reduce -/
def ir22 : IFn := ⟨8, [.tmp 4],
  .seq (.reg [⟨some 4, none, .mv (.cst (.int .u64 0))⟩])
  (.seq (.reg [⟨some 5, none, .mv (.tmp 0)⟩,
    ⟨some 6, none, .mv (.tmp 1)⟩,
    ⟨some 7, none, .call 23 [(.tmp 5), (.cst (.int .u64 0)), (.tmp 6)]⟩,
    ⟨some 4, none, .mv (.tmp 7)⟩])
  (.ret))⟩

theorem tr22 : trF Go.Proofs.Try.prog { obj := [], bare := [], loops := [], draws := [], glob := [] } Go.Proofs.Try.f22 = some ir22 := by kernel_rfl

/-- privity/field.fold -/
def ir23 : IFn := ⟨48, [.tmp 6],
  .seq (.reg [⟨some 6, none, .mv (.cst (.int .u64 0))⟩])
  (.seq (.reg [⟨some 11, none, .mv (.tmp 0)⟩,
    ⟨some 12, none, .call 24 [(.tmp 11)]⟩,
    ⟨some 7, none, .mv (.tmp 12)⟩])
  (.seq (.block 0
   (.loop [0, 1, 2, 7]
    (.seq (.seq (.reg [⟨some 13, none, .mv (.tmp 1)⟩,
      ⟨some 14, none, .bin .neq .plain (.tmp 13) (.cst (.int .u64 0))⟩,
      ⟨some 15, none, .mv (.tmp 14)⟩,
      ⟨some 16, some (15, false), .mv (.tmp 2)⟩,
      ⟨some 17, some (15, false), .mv (.tmp 0)⟩,
      ⟨some 18, some (15, false), .bin .gtr .plain (.tmp 16) (.tmp 17)⟩,
      ⟨some 19, none, .pick (.tmp 15) (.cst (.bool true)) (.tmp 18)⟩])
    (.cond (.tmp 19)
     (.skip)
     (.brk 0)))
    (.block 1
     (.seq (.reg [⟨some 20, none, .mv (.tmp 2)⟩,
       ⟨some 21, none, .mv (.tmp 0)⟩,
       ⟨some 22, none, .bin .and .plain (.tmp 20) (.tmp 21)⟩,
       ⟨some 8, none, .mv (.tmp 22)⟩])
     (.seq (.reg [⟨some 23, none, .mv (.tmp 2)⟩,
       ⟨some 24, none, .mv (.tmp 7)⟩,
       ⟨some 25, none, .bin .shr .plain (.tmp 23) (.tmp 24)⟩,
       ⟨some 26, none, .mv (.tmp 1)⟩,
       ⟨some 27, none, .mv (.tmp 7)⟩,
       ⟨some 28, none, .bin .sub .plain (.cst (.int .u64 64)) (.tmp 27)⟩,
       ⟨some 29, none, .bin .shl .plain (.tmp 26) (.tmp 28)⟩,
       ⟨some 30, none, .bin .or .plain (.tmp 25) (.tmp 29)⟩,
       ⟨some 31, none, .mv (.tmp 1)⟩,
       ⟨some 32, none, .mv (.tmp 7)⟩,
       ⟨some 33, none, .bin .shr .plain (.tmp 31) (.tmp 32)⟩,
       ⟨some 2, none, .mv (.tmp 30)⟩,
       ⟨some 1, none, .mv (.tmp 33)⟩])
     (.seq (.reg [⟨some 35, none, .mv (.tmp 2)⟩,
       ⟨some 36, none, .mv (.tmp 8)⟩,
       ⟨some 37, none, .add64 (.tmp 35) (.tmp 36) (.cst (.int .u64 0))⟩,
       ⟨some 34, none, .mv (.tmp 37)⟩,
       ⟨some 38, none, .ext (.tmp 34) 0⟩,
       ⟨some 39, none, .ext (.tmp 34) 1⟩,
       ⟨some 9, none, .mv (.tmp 38)⟩,
       ⟨some 10, none, .mv (.tmp 39)⟩])
     (.reg [⟨some 40, none, .mv (.tmp 9)⟩,
       ⟨some 41, none, .mv (.tmp 1)⟩,
       ⟨some 42, none, .mv (.tmp 10)⟩,
       ⟨some 43, none, .bin .add .plain (.tmp 41) (.tmp 42)⟩,
       ⟨some 2, none, .mv (.tmp 40)⟩,
       ⟨some 1, none, .mv (.tmp 43)⟩]))))))))
  (.seq (.seq (.reg [⟨some 44, none, .mv (.tmp 2)⟩,
    ⟨some 45, none, .mv (.tmp 0)⟩,
    ⟨some 46, none, .bin .eql .plain (.tmp 44) (.tmp 45)⟩])
  (.cond (.tmp 46)
   (.seq (.reg [⟨some 6, none, .mv (.cst (.int .u64 0))⟩])
   (.ret))
   (.skip)))
  (.seq (.reg [⟨some 47, none, .mv (.tmp 2)⟩,
    ⟨some 6, none, .mv (.tmp 47)⟩])
  (.ret)))))⟩

theorem tr23 : trF Go.Proofs.Try.prog { obj := [], bare := [], loops := [[0, 1, 2, 7]], draws := [], glob := [] } Go.Proofs.Try.f23 = some ir23 := by kernel_rfl

/-- privity/field.width -/
def ir24 : IFn := ⟨6, [.tmp 2],
  .seq (.reg [⟨some 2, none, .mv (.cst (.int .u64 0))⟩])
  (.seq (.reg [⟨some 3, none, .mv (.tmp 0)⟩,
    ⟨some 4, none, .call 26 [(.tmp 3)]⟩,
    ⟨some 5, none, .cvI .u64 (.tmp 4)⟩,
    ⟨some 2, none, .mv (.tmp 5)⟩])
  (.ret))⟩

theorem tr24 : trF Go.Proofs.Try.prog { obj := [], bare := [], loops := [], draws := [], glob := [] } Go.Proofs.Try.f24 = some ir24 := by kernel_rfl

/-- math/bits.Len64 -/
def ir26 : IFn := ⟨25, [.tmp 2],
  .seq (.reg [⟨some 2, none, .mv (.cst (.int .i64 0))⟩])
  (.seq (.seq (.reg [⟨some 3, none, .mv (.tmp 0)⟩,
    ⟨some 4, none, .bin .geq .plain (.tmp 3) (.cst (.int .u64 4294967296))⟩])
  (.cond (.tmp 4)
   (.seq (.reg [⟨some 5, none, .mv (.tmp 0)⟩,
     ⟨some 6, none, .bin .shr .plain (.tmp 5) (.cst (.int .u64 32))⟩,
     ⟨some 0, none, .mv (.tmp 6)⟩])
   (.reg [⟨some 2, none, .mv (.cst (.int .i64 32))⟩]))
   (.skip)))
  (.seq (.seq (.reg [⟨some 7, none, .mv (.tmp 0)⟩,
    ⟨some 8, none, .bin .geq .plain (.tmp 7) (.cst (.int .u64 65536))⟩])
  (.cond (.tmp 8)
   (.seq (.reg [⟨some 9, none, .mv (.tmp 0)⟩,
     ⟨some 10, none, .bin .shr .plain (.tmp 9) (.cst (.int .u64 16))⟩,
     ⟨some 0, none, .mv (.tmp 10)⟩])
   (.reg [⟨some 11, none, .mv (.tmp 2)⟩,
     ⟨some 12, none, .bin .add .plain (.tmp 11) (.cst (.int .i64 16))⟩,
     ⟨some 2, none, .mv (.tmp 12)⟩]))
   (.skip)))
  (.seq (.seq (.reg [⟨some 13, none, .mv (.tmp 0)⟩,
    ⟨some 14, none, .bin .geq .plain (.tmp 13) (.cst (.int .u64 256))⟩])
  (.cond (.tmp 14)
   (.seq (.reg [⟨some 15, none, .mv (.tmp 0)⟩,
     ⟨some 16, none, .bin .shr .plain (.tmp 15) (.cst (.int .u64 8))⟩,
     ⟨some 0, none, .mv (.tmp 16)⟩])
   (.reg [⟨some 17, none, .mv (.tmp 2)⟩,
     ⟨some 18, none, .bin .add .plain (.tmp 17) (.cst (.int .i64 8))⟩,
     ⟨some 2, none, .mv (.tmp 18)⟩]))
   (.skip)))
  (.seq (.reg [⟨some 19, none, .mv (.tmp 2)⟩,
    ⟨some 20, none, .mv (.tmp 0)⟩,
    ⟨some 21, none, .cvI .u8 (.tmp 20)⟩,
    ⟨some 22, none, .idxStr (.cst (.str bytes0)) (.tmp 21)⟩,
    ⟨some 23, none, .cvI .i64 (.tmp 22)⟩,
    ⟨some 24, none, .bin .add .plain (.tmp 19) (.tmp 23)⟩,
    ⟨some 2, none, .mv (.tmp 24)⟩])
  (.ret)))))⟩

theorem tr26 : trF Go.Proofs.Try.prog { obj := [], bare := [], loops := [], draws := [], glob := [] } Go.Proofs.Try.f26 = some ir26 := by kernel_rfl

end Go.Ab.Ytgnpliafpklfcaa
