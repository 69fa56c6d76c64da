/-
The functions of this cut as the abstract machine has them, and that they are what the compiler makes of the program's. Written by a program. Conditions: none.
-/
import Derived.Test.YtolilamofgildaaDoorMb
import Derived.Test.YtolilamofgildaaDoorProg
import Derived.KernelRfl
namespace Go.Am
open Go.Proofs

/-! signalbench/signalbenchlaw56.ReportTables -/
def Tryd.fn3_r0 : List AIns :=
   [⟨(some 2), .mov (.c (.bool false)), .none⟩]
def Tryd.fn3_r1 : List AIns :=
   [⟨(some 7), .call 8 [], .none⟩,
     ⟨(some 8), .un .not (.t 7), .none⟩]
def Tryd.fn3_r2 : List AIns :=
   [⟨(some 2), .mov (.c (.bool false)), .none⟩]
def Tryd.fn3_r3 : List AIns :=
   [⟨(some 9), .mov (.t 0), .none⟩,
     ⟨(some 10), .call 9 [(.t 9)], .none⟩,
     ⟨(some 11), .un .not (.t 10), .none⟩]
def Tryd.fn3_r4 : List AIns :=
   [⟨(some 2), .mov (.c (.bool true)), .none⟩]
def Tryd.fn3_r5 : List AIns :=
   [⟨(some 13), .mov (.t 0), .none⟩,
    ⟨(some 14), .call 10 [(.t 13)], .none⟩,
    ⟨(some 12), .mov (.t 14), .none⟩,
    ⟨(some 15), .ext 0 (.t 12), .none⟩,
    ⟨(some 16), .ext 1 (.t 12), .none⟩,
    ⟨(some 3), .mov (.t 15), .none⟩,
    ⟨(some 4), .mov (.t 16), .none⟩]
def Tryd.fn3_r6 : List AIns :=
   [⟨(some 18), .mov (.t 0), .none⟩,
    ⟨(some 19), .call 11 [(.t 18)], .none⟩,
    ⟨(some 17), .mov (.t 19), .none⟩,
    ⟨(some 20), .ext 0 (.t 17), .none⟩,
    ⟨(some 21), .ext 1 (.t 17), .none⟩,
    ⟨(some 5), .mov (.t 20), .none⟩,
    ⟨(some 6), .mov (.t 21), .none⟩]
def Tryd.fn3_r7 : List AIns :=
   [⟨(some 22), .mov (.t 3), .none⟩,
    ⟨(some 23), .mov (.t 5), .none⟩,
    ⟨(some 24), .bin .eql (.t 22) (.t 23), .none⟩,
    ⟨(some 25), .mov (.t 24), .none⟩,
    ⟨(some 26), .mov (.t 4), (some (25, true))⟩,
    ⟨(some 27), .mov (.t 6), (some (25, true))⟩,
    ⟨(some 28), .bin .eql (.t 26) (.t 27), (some (25, true))⟩,
    ⟨(some 29), .pick (.t 25) (.t 28) (.c (.bool false)), .none⟩,
    ⟨(some 2), .mov (.t 29), .none⟩]
def Tryd.fn3 : AFun :=
 ⟨30, [.tmp 2],
 (.seq (.seq (.reg Tryd.fn3_r0)
  (.trim [0]))
 (.seq (.seq (.seq (.reg Tryd.fn3_r1)
   (.trim [0, 8]))
  (.cond (.t 8)
   (.seq (.seq (.reg Tryd.fn3_r2)
    (.trim [2]))
   .ret)
   .skip))
 (.seq (.seq (.seq (.reg Tryd.fn3_r3)
   (.trim [0, 11]))
  (.cond (.t 11)
   (.seq (.seq (.reg Tryd.fn3_r4)
    (.trim [2]))
   .ret)
   .skip))
 (.seq (.seq (.reg Tryd.fn3_r5)
  (.trim [0, 3, 4]))
 (.seq (.seq (.reg Tryd.fn3_r6)
  (.trim [3, 4, 5, 6]))
 (.seq (.seq (.reg Tryd.fn3_r7)
  (.trim [2]))
 .ret)))))), false, .none⟩
/-! signalbench/signalbenchlaw56.ReportAligns -/
def Tryd.fn4_r0 : List AIns :=
   [⟨(some 2), .mov (.c (.bool false)), .none⟩]
def Tryd.fn4_r1 : List AIns :=
   [⟨(some 13), .call 8 [], .none⟩,
     ⟨(some 14), .un .not (.t 13), .none⟩]
def Tryd.fn4_r2 : List AIns :=
   [⟨(some 2), .mov (.c (.bool false)), .none⟩]
def Tryd.fn4_r3 : List AIns :=
   [⟨(some 15), .mov (.t 0), .none⟩,
     ⟨(some 16), .call 9 [(.t 15)], .none⟩,
     ⟨(some 17), .un .not (.t 16), .none⟩]
def Tryd.fn4_r4 : List AIns :=
   [⟨(some 2), .mov (.c (.bool true)), .none⟩]
def Tryd.fn4_r5 : List AIns :=
   [⟨(some 19), .mov (.t 0), .none⟩,
    ⟨(some 20), .call 10 [(.t 19)], .none⟩,
    ⟨(some 18), .mov (.t 20), .none⟩,
    ⟨(some 21), .ext 0 (.t 18), .none⟩,
    ⟨(some 22), .ext 1 (.t 18), .none⟩,
    ⟨(some 3), .mov (.t 21), .none⟩,
    ⟨(some 4), .mov (.t 22), .none⟩]
def Tryd.fn4_r6 : List AIns :=
   [⟨(some 23), .mov (.t 4), .none⟩,
     ⟨(some 24), .bin .neq (.t 23) (.c (.int .i64 0)), .none⟩]
def Tryd.fn4_r7 : List AIns :=
   [⟨(some 25), .mov (.t 3), .none⟩,
      ⟨(some 26), .bin .eql (.t 25) (.c (.str [])), .none⟩,
      ⟨(some 2), .mov (.t 26), .none⟩]
def Tryd.fn4_r8 : List AIns :=
   [⟨(some 27), .bsl 3 1 0 [(.int .i64 0)] [], .none⟩,
    ⟨(some 5), .mov (.t 27), .none⟩]
def Tryd.fn4_r9 : List AIns :=
   [⟨(some 6), .mov (.c (.int .i64 0)), .none⟩]
def Tryd.fn4_r10 : List AIns :=
   [⟨(some 7), .mov (.c (.int .i64 0)), .none⟩]
def Tryd.fn4_r11 : List AIns :=
   [⟨(some 28), .mov (.t 7), .none⟩,
        ⟨(some 29), .mov (.t 0), .none⟩,
        ⟨(some 30), .lenl (.t 29), .none⟩,
        ⟨(some 31), .bin .lss (.t 28) (.t 30), .none⟩]
def Tryd.fn4_r12a : List DIns :=
   ⟨⟨(some 40), .ia 1 (.t 39) (.c (.int .i64 0)), .none⟩, [5], [7, 8, 9], 0⟩ ::
   ⟨⟨(some 41), .ld1 (.t 40), .none⟩, [6, 5], [8, 9], 1⟩ ::
   ⟨⟨(some 42), .lenl (.t 41), .none⟩, [7, 6, 5], [9], 0⟩ ::
   ⟨⟨(some 43), .bin .neq (.t 38) (.t 42), .none⟩, [4, 8, 3, 2, 0, 1, 7, 6, 5], [], 0⟩ ::
   []
def Tryd.fn4_r12 : List DIns :=
   ⟨⟨(some 34), .mov (.t 0), .none⟩, [], [2, 3, 4, 9], 0⟩ ::
   ⟨⟨(some 35), .mov (.t 7), .none⟩, [], [2, 3, 4, 9], 0⟩ ::
   ⟨⟨(some 36), .ia 1 (.t 34) (.t 35), .none⟩, [0, 1], [3, 4, 9], 0⟩ ::
   ⟨⟨(some 37), .ld1 (.t 36), .none⟩, [2, 0, 1], [4, 9], 1⟩ ::
   ⟨⟨(some 38), .lenl (.t 37), .none⟩, [3, 2, 0, 1], [9], 0⟩ ::
   ⟨⟨(some 39), .mov (.t 0), .none⟩, [], [6, 7, 8, 9], 0⟩ ::
   Tryd.fn4_r12a
def Tryd.fn4_r13 : List AIns :=
   [⟨(some 2), .mov (.c (.bool false)), .none⟩]
def Tryd.fn4_r14 : List AIns :=
   [⟨(some 44), .mov (.t 6), .none⟩,
         ⟨(some 8), .mov (.t 44), .none⟩]
def Tryd.fn4_r15 : List AIns :=
   [⟨(some 45), .mov (.t 8), .none⟩,
             ⟨(some 46), .mov (.t 3), .none⟩,
             ⟨(some 47), .lens (.t 46), .none⟩,
             ⟨(some 48), .bin .lss (.t 45) (.t 47), .none⟩,
             ⟨(some 49), .mov (.t 48), .none⟩,
             ⟨(some 50), .mov (.t 3), (some (49, true))⟩,
             ⟨(some 51), .mov (.t 8), (some (49, true))⟩,
             ⟨(some 52), .ids (.t 50) (.t 51), (some (49, true))⟩,
             ⟨(some 53), .bin .neq (.t 52) (.c (.int .u8 10)), (some (49, true))⟩,
             ⟨(some 54), .pick (.t 49) (.t 53) (.c (.bool false)), .none⟩]
def Tryd.fn4_r16 : List AIns :=
   [⟨(some 55), .mov (.t 8), .none⟩,
            ⟨(some 56), .bin .add (.t 55) (.c (.int .i64 1)), .none⟩,
            ⟨(some 8), .mov (.t 56), .none⟩]
def Tryd.fn4_r17 : List AIns :=
   [⟨(some 57), .mov (.t 8), .none⟩,
           ⟨(some 58), .mov (.t 3), .none⟩,
           ⟨(some 59), .lens (.t 58), .none⟩,
           ⟨(some 60), .bin .eql (.t 57) (.t 59), .none⟩,
           ⟨(some 61), .mov (.t 60), .none⟩,
           ⟨(some 62), .mov (.t 8), (some (61, false))⟩,
           ⟨(some 63), .mov (.t 6), (some (61, false))⟩,
           ⟨(some 64), .bin .eql (.t 62) (.t 63), (some (61, false))⟩,
           ⟨(some 65), .pick (.t 61) (.c (.bool true)) (.t 64), .none⟩,
           ⟨(some 66), .mov (.t 65), .none⟩]
def Tryd.fn4_r18 : List AIns :=
   [⟨(some 67), .mov (.t 3), (some (66, false))⟩,
          ⟨(some 68), .mov (.t 8), (some (66, false))⟩,
          ⟨(some 69), .bin .sub (.t 68) (.c (.int .i64 1)), (some (66, false))⟩,
          ⟨(some 70), .ids (.t 67) (.t 69), (some (66, false))⟩,
          ⟨(some 71), .bin .eql (.t 70) (.c (.int .u8 32)), (some (66, false))⟩,
          ⟨(some 72), .pick (.t 66) (.c (.bool true)) (.t 71), .none⟩]
def Tryd.fn4_r19 : List AIns :=
   [⟨(some 2), .mov (.c (.bool false)), .none⟩]
def Tryd.fn4_r20 : List AIns :=
   [⟨(some 9), .mov (.c (.int .i64 0)), .none⟩]
def Tryd.fn4_r21 : List AIns :=
   [⟨(some 10), .mov (.c (.int .i64 0)), .none⟩]
def Tryd.fn4_r22 : List AIns :=
   [⟨(some 73), .mov (.t 10), .none⟩,
             ⟨(some 74), .mov (.t 0), .none⟩,
             ⟨(some 75), .mov (.t 7), .none⟩,
             ⟨(some 76), .ia 1 (.t 74) (.t 75), .none⟩,
             ⟨(some 77), .ld1 (.t 76), .none⟩,
             ⟨(some 78), .lenl (.t 77), .none⟩,
             ⟨(some 79), .bin .lss (.t 73) (.t 78), .none⟩]
def Tryd.fn4_r23 : List AIns :=
   [⟨(some 82), .mov (.t 10), .none⟩,
               ⟨(some 83), .bin .gtr (.t 82) (.c (.int .i64 0)), .none⟩]
def Tryd.fn4_r24 : List AIns :=
   [⟨(some 84), .mov (.t 9), .none⟩,
                ⟨(some 11), .mov (.t 84), .none⟩]
def Tryd.fn4_r25 : List AIns :=
   [⟨(some 85), .mov (.t 6), .none⟩,
                     ⟨(some 86), .mov (.t 9), .none⟩,
                     ⟨(some 87), .bin .add (.t 85) (.t 86), .none⟩,
                     ⟨(some 88), .mov (.t 8), .none⟩,
                     ⟨(some 89), .bin .lss (.t 87) (.t 88), .none⟩,
                     ⟨(some 90), .mov (.t 89), .none⟩,
                     ⟨(some 91), .mov (.t 3), (some (90, true))⟩,
                     ⟨(some 92), .mov (.t 6), (some (90, true))⟩,
                     ⟨(some 93), .mov (.t 9), (some (90, true))⟩,
                     ⟨(some 94), .bin .add (.t 92) (.t 93), (some (90, true))⟩]
def Tryd.fn4_r26 : List AIns :=
   [⟨(some 95), .ids (.t 91) (.t 94), (some (90, true))⟩,
                    ⟨(some 96), .bin .eql (.t 95) (.c (.int .u8 32)), (some (90, true))⟩,
                    ⟨(some 97), .pick (.t 90) (.t 96) (.c (.bool false)), .none⟩]
def Tryd.fn4_r27 : List AIns :=
   [⟨(some 98), .mov (.t 9), .none⟩,
                   ⟨(some 99), .bin .add (.t 98) (.c (.int .i64 1)), .none⟩,
                   ⟨(some 9), .mov (.t 99), .none⟩]
def Tryd.fn4_r28 : List AIns :=
   [⟨(some 100), .mov (.t 9), .none⟩,
                ⟨(some 101), .mov (.t 11), .none⟩,
                ⟨(some 102), .bin .sub (.t 100) (.t 101), .none⟩,
                ⟨(some 103), .bin .lss (.t 102) (.c (.int .i64 2)), .none⟩]
def Tryd.fn4_r29 : List AIns :=
   [⟨(some 2), .mov (.c (.bool false)), .none⟩]
def Tryd.fn4_r30 : List AIns :=
   [⟨(some 104), .mov (.t 0), .none⟩,
              ⟨(some 105), .mov (.t 7), .none⟩,
              ⟨(some 106), .ia 1 (.t 104) (.t 105), .none⟩,
              ⟨(some 107), .ld1 (.t 106), .none⟩,
              ⟨(some 108), .mov (.t 10), .none⟩,
              ⟨(some 109), .ia 1 (.t 107) (.t 108), .none⟩,
              ⟨(some 110), .ld1 (.t 109), .none⟩,
              ⟨(some 111), .lens (.t 110), .none⟩,
              ⟨(some 12), .mov (.t 111), .none⟩]
def Tryd.fn4_r31d : List DIns :=
   ⟨⟨(some 136), .ld1 (.t 135), (some (119, false))⟩, [23, 7, 21, 22, 20, 18, 19, 6, 4, 5, 2, 3, 0, 1], [25, 26], 2⟩ ::
   ⟨⟨(some 137), .bin .neq (.t 129) (.t 136), (some (119, false))⟩, [17, 24, 7, 8, 11, 16, 6, 4, 5, 2, 3, 0, 1, 9, 10, 14, 15, 12, 13, 23, 21, 22, 20, 18, 19], [26], 0⟩ ::
   ⟨⟨(some 138), .pick (.t 119) (.c (.bool true)) (.t 137), .none⟩, [7, 25, 6, 4, 5, 2, 3, 0, 1, 17, 24, 8, 11, 16, 9, 10, 14, 15, 12, 13, 23, 21, 22, 20, 18, 19], [], 0⟩ ::
   []
def Tryd.fn4_r31c : List DIns :=
   ⟨⟨(some 130), .mov (.t 0), (some (119, false))⟩, [7, 6, 4, 5, 2, 3, 0, 1], [20, 21, 23, 24, 25, 26], 0⟩ ::
   ⟨⟨(some 131), .mov (.t 7), (some (119, false))⟩, [7, 6, 4, 5, 2, 3, 0, 1], [20, 21, 23, 24, 25, 26], 0⟩ ::
   ⟨⟨(some 132), .ia 1 (.t 130) (.t 131), (some (119, false))⟩, [18, 19, 7, 6, 4, 5, 2, 3, 0, 1], [21, 23, 24, 25, 26], 0⟩ ::
   ⟨⟨(some 133), .ld1 (.t 132), (some (119, false))⟩, [20, 7, 18, 19, 6, 4, 5, 2, 3, 0, 1], [23, 24, 25, 26], 2⟩ ::
   ⟨⟨(some 134), .mov (.t 10), (some (119, false))⟩, [7, 6, 4, 5, 2, 3, 0, 1], [23, 24, 25, 26], 0⟩ ::
   ⟨⟨(some 135), .ia 1 (.t 133) (.t 134), (some (119, false))⟩, [21, 22, 7, 20, 18, 19, 6, 4, 5, 2, 3, 0, 1], [24, 25, 26], 0⟩ ::
   Tryd.fn4_r31d
def Tryd.fn4_r31b : List DIns :=
   ⟨⟨(some 124), .mov (.t 6), (some (119, false))⟩, [7, 6, 4, 5, 2, 3, 0, 1], [14, 16, 17, 25, 26], 0⟩ ::
   ⟨⟨(some 125), .mov (.t 9), (some (119, false))⟩, [7, 6, 4, 5, 2, 3, 0, 1], [14, 16, 17, 25, 26], 0⟩ ::
   ⟨⟨(some 126), .bin .add (.t 124) (.t 125), (some (119, false))⟩, [12, 13, 7, 6, 4, 5, 2, 3, 0, 1], [16, 17, 25, 26], 0⟩ ::
   ⟨⟨(some 127), .mov (.t 12), (some (119, false))⟩, [7, 6, 4, 5, 2, 3, 0, 1], [16, 17, 25, 26], 0⟩ ::
   ⟨⟨(some 128), .bin .add (.t 126) (.t 127), (some (119, false))⟩, [14, 15, 7, 12, 13, 6, 4, 5, 2, 3, 0, 1], [17, 25, 26], 0⟩ ::
   ⟨⟨(some 129), .sub (.t 120) (some (.t 123)) (some (.t 128)), (some (119, false))⟩, [8, 11, 16, 7, 6, 4, 5, 2, 3, 0, 1, 9, 10, 14, 15, 12, 13], [25, 26], 0⟩ ::
   Tryd.fn4_r31c
def Tryd.fn4_r31a : List DIns :=
   ⟨⟨(some 118), .bin .gtr (.t 116) (.t 117), .none⟩, [4, 5, 2, 3, 0, 1], [7, 8, 9, 10, 11, 12, 13, 14, 15, 16, 17, 18, 19, 20, 21, 22, 23, 24, 25, 26], 0⟩ ::
   ⟨⟨(some 119), .mov (.t 118), .none⟩, [6, 4, 5, 2, 3, 0, 1], [8, 9, 10, 11, 12, 13, 14, 15, 16, 17, 18, 19, 20, 21, 22, 23, 24, 25, 26], 0⟩ ::
   ⟨⟨(some 120), .mov (.t 3), (some (119, false))⟩, [7, 6, 4, 5, 2, 3, 0, 1], [17, 25, 26], 0⟩ ::
   ⟨⟨(some 121), .mov (.t 6), (some (119, false))⟩, [7, 6, 4, 5, 2, 3, 0, 1], [11, 17, 25, 26], 0⟩ ::
   ⟨⟨(some 122), .mov (.t 9), (some (119, false))⟩, [7, 6, 4, 5, 2, 3, 0, 1], [11, 17, 25, 26], 0⟩ ::
   ⟨⟨(some 123), .bin .add (.t 121) (.t 122), (some (119, false))⟩, [9, 10, 7, 6, 4, 5, 2, 3, 0, 1], [17, 25, 26], 0⟩ ::
   Tryd.fn4_r31b
def Tryd.fn4_r31 : List DIns :=
   ⟨⟨(some 112), .mov (.t 6), .none⟩, [], [2, 4, 6, 7, 8, 9, 10, 11, 12, 13, 14, 15, 16, 17, 18, 19, 20, 21, 22, 23, 24, 25, 26], 0⟩ ::
   ⟨⟨(some 113), .mov (.t 9), .none⟩, [], [2, 4, 6, 7, 8, 9, 10, 11, 12, 13, 14, 15, 16, 17, 18, 19, 20, 21, 22, 23, 24, 25, 26], 0⟩ ::
   ⟨⟨(some 114), .bin .add (.t 112) (.t 113), .none⟩, [0, 1], [4, 6, 7, 8, 9, 10, 11, 12, 13, 14, 15, 16, 17, 18, 19, 20, 21, 22, 23, 24, 25, 26], 0⟩ ::
   ⟨⟨(some 115), .mov (.t 12), .none⟩, [], [4, 6, 7, 8, 9, 10, 11, 12, 13, 14, 15, 16, 17, 18, 19, 20, 21, 22, 23, 24, 25, 26], 0⟩ ::
   ⟨⟨(some 116), .bin .add (.t 114) (.t 115), .none⟩, [2, 3, 0, 1], [6, 7, 8, 9, 10, 11, 12, 13, 14, 15, 16, 17, 18, 19, 20, 21, 22, 23, 24, 25, 26], 0⟩ ::
   ⟨⟨(some 117), .mov (.t 8), .none⟩, [], [6, 7, 8, 9, 10, 11, 12, 13, 14, 15, 16, 17, 18, 19, 20, 21, 22, 23, 24, 25, 26], 0⟩ ::
   Tryd.fn4_r31a
def Tryd.fn4_r32 : List AIns :=
   [⟨(some 2), .mov (.c (.bool false)), .none⟩]
def Tryd.fn4_r33 : List AIns :=
   [⟨(some 139), .mov (.t 7), .none⟩,
               ⟨(some 140), .bin .eql (.t 139) (.c (.int .i64 0)), .none⟩]
def Tryd.fn4_r34 : List AIns :=
   [⟨(some 141), .mov (.t 5), .none⟩,
               ⟨(some 142), .mov (.t 9), .none⟩,
               ⟨(some 143), .bsl 3 1 1 [(.int .i64 0)] [(0, 1, (.t 142))], .none⟩,
               ⟨(some 144), .app 3 1 8 (.t 141) (.t 143), .none⟩,
               ⟨(some 5), .mov (.t 144), .none⟩]
def Tryd.fn4_r35 : List AIns :=
   [⟨(some 145), .mov (.t 5), .none⟩,
                ⟨(some 146), .mov (.t 10), .none⟩,
                ⟨(some 147), .ia 1 (.t 145) (.t 146), .none⟩,
                ⟨(some 148), .ld1 (.t 147), .none⟩,
                ⟨(some 149), .mov (.t 9), .none⟩,
                ⟨(some 150), .bin .neq (.t 148) (.t 149), .none⟩]
def Tryd.fn4_r36 : List AIns :=
   [⟨(some 2), .mov (.c (.bool false)), .none⟩]
def Tryd.fn4_r37 : List AIns :=
   [⟨(some 151), .mov (.t 9), .none⟩,
             ⟨(some 152), .mov (.t 12), .none⟩,
             ⟨(some 153), .bin .add (.t 151) (.t 152), .none⟩,
             ⟨(some 9), .mov (.t 153), .none⟩]
def Tryd.fn4_r38 : List AIns :=
   [⟨(some 80), .mov (.t 10), .none⟩,
           ⟨(some 81), .bin .add (.t 80) (.c (.int .i64 1)), .none⟩,
           ⟨(some 10), .mov (.t 81), .none⟩]
def Tryd.fn4_r39 : List AIns :=
   [⟨(some 154), .mov (.t 6), .none⟩,
          ⟨(some 155), .mov (.t 9), .none⟩,
          ⟨(some 156), .bin .add (.t 154) (.t 155), .none⟩,
          ⟨(some 157), .mov (.t 8), .none⟩,
          ⟨(some 158), .bin .neq (.t 156) (.t 157), .none⟩]
def Tryd.fn4_r40 : List AIns :=
   [⟨(some 2), .mov (.c (.bool false)), .none⟩]
def Tryd.fn4_r41 : List AIns :=
   [⟨(some 159), .mov (.t 8), .none⟩,
        ⟨(some 160), .bin .add (.t 159) (.c (.int .i64 1)), .none⟩,
        ⟨(some 6), .mov (.t 160), .none⟩]
def Tryd.fn4_r42 : List AIns :=
   [⟨(some 32), .mov (.t 7), .none⟩,
      ⟨(some 33), .bin .add (.t 32) (.c (.int .i64 1)), .none⟩,
      ⟨(some 7), .mov (.t 33), .none⟩]
def Tryd.fn4_r43 : List AIns :=
   [⟨(some 161), .mov (.t 6), .none⟩,
    ⟨(some 162), .mov (.t 3), .none⟩,
    ⟨(some 163), .lens (.t 162), .none⟩,
    ⟨(some 164), .bin .eql (.t 161) (.t 163), .none⟩,
    ⟨(some 2), .mov (.t 164), .none⟩]
def Tryd.fn4_l0 : ACode :=
 (.seq (.seq (.seq (.seq (.reg Tryd.fn4_r25)
                   (.trim [0, 3, 5, 6, 7, 8, 9, 10, 11, 90, 91, 94]))
                  (.seq (.reg Tryd.fn4_r26)
                  (.trim [0, 3, 5, 6, 7, 8, 9, 10, 11, 97])))
                 (.cond (.t 97)
                  .skip
                  (.exit 6)))
                (.block 7
                 (.seq (.reg Tryd.fn4_r27)
                 (.trim [0, 3, 5, 6, 7, 8, 9, 10, 11]))))
def Tryd.fn4_l1 : ACode :=
 (.seq (.seq (.seq (.reg Tryd.fn4_r22)
           (.trim [0, 3, 5, 6, 7, 8, 9, 10, 79]))
          (.cond (.t 79)
           .skip
           (.exit 4)))
         (.seq (.block 5
           (.seq (.seq (.seq (.reg Tryd.fn4_r23)
             (.trim [0, 3, 5, 6, 7, 8, 9, 10, 83]))
            (.cond (.t 83)
             (.seq (.seq (.reg Tryd.fn4_r24)
              (.trim [0, 3, 5, 6, 7, 8, 9, 10, 11]))
             (.seq (.block 6
               (.loop (some [0, 3, 5, 6, 7, 8, 9, 10, 11])
                Tryd.fn4_l0))
             (.seq (.seq (.reg Tryd.fn4_r28)
              (.trim [0, 3, 5, 6, 7, 8, 9, 10, 103]))
             (.cond (.t 103)
              (.seq (.seq (.reg Tryd.fn4_r29)
               (.trim [2]))
              .ret)
              .skip))))
             .skip))
           (.seq (.seq (.reg Tryd.fn4_r30)
            (.trim [0, 3, 5, 6, 7, 8, 9, 10, 12]))
           (.seq (.seq (.seq (.regd Tryd.fn4_r31)
             (.trim [0, 3, 5, 6, 7, 8, 9, 10, 12, 138]))
            (.cond (.t 138)
             (.seq (.seq (.reg Tryd.fn4_r32)
              (.trim [2]))
             .ret)
             .skip))
           (.seq (.seq (.seq (.reg Tryd.fn4_r33)
             (.trim [0, 3, 5, 6, 7, 8, 9, 10, 12, 140]))
            (.cond (.t 140)
             (.seq (.reg Tryd.fn4_r34)
             (.trim [0, 3, 5, 6, 7, 8, 9, 10, 12]))
             (.seq (.seq (.reg Tryd.fn4_r35)
              (.trim [0, 3, 5, 6, 7, 8, 9, 10, 12, 150]))
             (.cond (.t 150)
              (.seq (.seq (.reg Tryd.fn4_r36)
               (.trim [2]))
              .ret)
              .skip))))
           (.seq (.reg Tryd.fn4_r37)
           (.trim [0, 3, 5, 6, 7, 8, 9, 10])))))))
         (.seq (.reg Tryd.fn4_r38)
         (.trim [0, 3, 5, 6, 7, 8, 9, 10]))))
def Tryd.fn4_l2 : ACode :=
 (.seq (.seq (.seq (.reg Tryd.fn4_r15)
           (.trim [0, 3, 5, 6, 7, 8, 54]))
          (.cond (.t 54)
           .skip
           (.exit 2)))
         (.block 3
          (.seq (.reg Tryd.fn4_r16)
          (.trim [0, 3, 5, 6, 7, 8]))))
def Tryd.fn4_l3 : ACode :=
 (.seq (.seq (.seq (.reg Tryd.fn4_r11)
      (.trim [0, 3, 5, 6, 7, 31]))
     (.cond (.t 31)
      .skip
      (.exit 0)))
    (.seq (.block 1
      (.seq (.seq (.seq (.regd Tryd.fn4_r12)
        (.trim [0, 3, 5, 6, 7, 43]))
       (.cond (.t 43)
        (.seq (.seq (.reg Tryd.fn4_r13)
         (.trim [2]))
        .ret)
        .skip))
      (.seq (.seq (.reg Tryd.fn4_r14)
       (.trim [0, 3, 5, 6, 7, 8]))
      (.seq (.block 2
        (.loop (some [0, 3, 5, 6, 7, 8])
         Tryd.fn4_l2))
      (.seq (.seq (.seq (.seq (.reg Tryd.fn4_r17)
         (.trim [0, 3, 5, 6, 7, 8, 66]))
        (.seq (.reg Tryd.fn4_r18)
        (.trim [0, 3, 5, 6, 7, 8, 72])))
       (.cond (.t 72)
        (.seq (.seq (.reg Tryd.fn4_r19)
         (.trim [2]))
        .ret)
        .skip))
      (.seq (.seq (.reg Tryd.fn4_r20)
       (.trim [0, 3, 5, 6, 7, 8, 9]))
      (.seq (.seq (.seq (.reg Tryd.fn4_r21)
        (.trim [0, 3, 5, 6, 7, 8, 9, 10]))
       (.block 4
        (.loop (some [0, 3, 5, 6, 7, 8, 9, 10])
         Tryd.fn4_l1)))
      (.seq (.seq (.seq (.reg Tryd.fn4_r39)
        (.trim [0, 3, 5, 7, 8, 158]))
       (.cond (.t 158)
        (.seq (.seq (.reg Tryd.fn4_r40)
         (.trim [2]))
        .ret)
        .skip))
      (.seq (.reg Tryd.fn4_r41)
      (.trim [0, 3, 5, 6, 7]))))))))))
    (.seq (.reg Tryd.fn4_r42)
    (.trim [0, 3, 5, 6, 7]))))
def Tryd.fn4 : AFun :=
 ⟨165, [.tmp 2],
 (.seq (.seq (.reg Tryd.fn4_r0)
  (.trim [0]))
 (.seq (.seq (.seq (.reg Tryd.fn4_r1)
   (.trim [0, 14]))
  (.cond (.t 14)
   (.seq (.seq (.reg Tryd.fn4_r2)
    (.trim [2]))
   .ret)
   .skip))
 (.seq (.seq (.seq (.reg Tryd.fn4_r3)
   (.trim [0, 17]))
  (.cond (.t 17)
   (.seq (.seq (.reg Tryd.fn4_r4)
    (.trim [2]))
   .ret)
   .skip))
 (.seq (.seq (.reg Tryd.fn4_r5)
  (.trim [0, 3, 4]))
 (.seq (.seq (.seq (.reg Tryd.fn4_r6)
   (.trim [0, 3, 24]))
  (.cond (.t 24)
   (.seq (.seq (.reg Tryd.fn4_r7)
    (.trim [2]))
   .ret)
   .skip))
 (.seq (.seq (.reg Tryd.fn4_r8)
  (.trim [0, 3, 5]))
 (.seq (.seq (.reg Tryd.fn4_r9)
  (.trim [0, 3, 5, 6]))
 (.seq (.seq (.seq (.reg Tryd.fn4_r10)
   (.trim [0, 3, 5, 6, 7]))
  (.block 0
   (.loop (some [0, 3, 5, 6, 7])
    Tryd.fn4_l3)))
 (.seq (.seq (.reg Tryd.fn4_r43)
  (.trim [2]))
 .ret))))))))), false, .none⟩
/-! signalbench/signalbenchlaw56.ReportExports -/
def Tryd.fn5_r0 : List AIns :=
   [⟨(some 4), .mov (.c (.bool false)), .none⟩]
def Tryd.fn5_r1 : List AIns :=
   [⟨(some 12), .call 8 [], .none⟩,
     ⟨(some 13), .un .not (.t 12), .none⟩]
def Tryd.fn5_r2 : List AIns :=
   [⟨(some 4), .mov (.c (.bool false)), .none⟩]
def Tryd.fn5_r3 : List AIns :=
   [⟨(some 14), .mov (.t 0), .none⟩,
     ⟨(some 15), .call 12 [(.t 14)], .none⟩,
     ⟨(some 16), .un .not (.t 15), .none⟩]
def Tryd.fn5_r4 : List AIns :=
   [⟨(some 4), .mov (.c (.bool true)), .none⟩]
def Tryd.fn5_r5 : List AIns :=
   [⟨(some 18), .mov (.t 0), .none⟩,
    ⟨(some 19), .call 13 [(.t 18)], .none⟩,
    ⟨(some 17), .mov (.t 19), .none⟩,
    ⟨(some 20), .ext 0 (.t 17), .none⟩,
    ⟨(some 21), .ext 1 (.t 17), .none⟩,
    ⟨(some 5), .mov (.t 20), .none⟩,
    ⟨(some 6), .mov (.t 21), .none⟩]
def Tryd.fn5_r6 : List AIns :=
   [⟨(some 23), .mov (.t 0), .none⟩,
    ⟨(some 24), .call 14 [(.t 23)], .none⟩,
    ⟨(some 22), .mov (.t 24), .none⟩,
    ⟨(some 25), .ext 0 (.t 22), .none⟩,
    ⟨(some 26), .ext 1 (.t 22), .none⟩,
    ⟨(some 7), .mov (.t 25), .none⟩,
    ⟨(some 8), .mov (.t 26), .none⟩]
def Tryd.fn5_r7 : List AIns :=
   [⟨(some 27), .mov (.t 0), .none⟩,
    ⟨(some 28), .mov (.t 1), .none⟩,
    ⟨(some 29), .call 15 [(.t 27), (.t 28)], .none⟩,
    ⟨(some 30), .mov (.t 0), .none⟩,
    ⟨(some 31), .mov (.t 1), .none⟩,
    ⟨(some 32), .call 16 [(.t 30), (.t 31)], .none⟩,
    ⟨(some 9), .mov (.t 29), .none⟩,
    ⟨(some 10), .mov (.t 32), .none⟩]
def Tryd.fn5_r8 : List AIns :=
   [⟨(some 33), .mov (.t 5), .none⟩,
      ⟨(some 34), .mov (.t 7), .none⟩,
      ⟨(some 35), .bin .neq (.t 33) (.t 34), .none⟩,
      ⟨(some 36), .mov (.t 35), .none⟩,
      ⟨(some 37), .mov (.t 6), (some (36, false))⟩,
      ⟨(some 38), .mov (.t 8), (some (36, false))⟩,
      ⟨(some 39), .bin .neq (.t 37) (.t 38), (some (36, false))⟩,
      ⟨(some 40), .pick (.t 36) (.c (.bool true)) (.t 39), .none⟩,
      ⟨(some 41), .mov (.t 40), .none⟩,
      ⟨(some 42), .mov (.t 9), (some (41, false))⟩]
def Tryd.fn5_r9 : List AIns :=
   [⟨(some 43), .lenl (.t 42), (some (41, false))⟩,
     ⟨(some 44), .mov (.t 10), (some (41, false))⟩,
     ⟨(some 45), .lenl (.t 44), (some (41, false))⟩,
     ⟨(some 46), .bin .neq (.t 43) (.t 45), (some (41, false))⟩,
     ⟨(some 47), .pick (.t 41) (.c (.bool true)) (.t 46), .none⟩]
def Tryd.fn5_r10 : List AIns :=
   [⟨(some 4), .mov (.c (.bool false)), .none⟩]
def Tryd.fn5_r11 : List AIns :=
   [⟨(some 11), .mov (.c (.int .i64 0)), .none⟩]
def Tryd.fn5_r12 : List AIns :=
   [⟨(some 48), .mov (.t 11), .none⟩,
        ⟨(some 49), .mov (.t 9), .none⟩,
        ⟨(some 50), .lenl (.t 49), .none⟩,
        ⟨(some 51), .bin .lss (.t 48) (.t 50), .none⟩]
def Tryd.fn5_r13a : List DIns :=
   ⟨⟨(some 60), .ia 2 (.t 58) (.t 59), .none⟩, [4, 5], [7, 8], 0⟩ ::
   ⟨⟨(some 61), .ldn 2 (.t 60), .none⟩, [6, 4, 5], [8], 1⟩ ::
   ⟨⟨(some 62), .eqv true false (.st [(0, .none, .int), (1, .none, .int)]) (.t 57) (.t 61), .none⟩, [3, 7, 2, 0, 1, 6, 4, 5], [], 0⟩ ::
   []
def Tryd.fn5_r13 : List DIns :=
   ⟨⟨(some 54), .mov (.t 9), .none⟩, [], [2, 3, 8], 0⟩ ::
   ⟨⟨(some 55), .mov (.t 11), .none⟩, [], [2, 3, 8], 0⟩ ::
   ⟨⟨(some 56), .ia 2 (.t 54) (.t 55), .none⟩, [0, 1], [3, 8], 0⟩ ::
   ⟨⟨(some 57), .ldn 2 (.t 56), .none⟩, [2, 0, 1], [8], 1⟩ ::
   ⟨⟨(some 58), .mov (.t 10), .none⟩, [], [6, 7, 8], 0⟩ ::
   ⟨⟨(some 59), .mov (.t 11), .none⟩, [], [6, 7, 8], 0⟩ ::
   Tryd.fn5_r13a
def Tryd.fn5_r14 : List AIns :=
   [⟨(some 4), .mov (.c (.bool false)), .none⟩]
def Tryd.fn5_r15 : List AIns :=
   [⟨(some 52), .mov (.t 11), .none⟩,
      ⟨(some 53), .bin .add (.t 52) (.c (.int .i64 1)), .none⟩,
      ⟨(some 11), .mov (.t 53), .none⟩]
def Tryd.fn5_r16 : List AIns :=
   [⟨(some 4), .mov (.c (.bool true)), .none⟩]
def Tryd.fn5_l0 : ACode :=
 (.seq (.seq (.seq (.reg Tryd.fn5_r12)
      (.trim [9, 10, 11, 51]))
     (.cond (.t 51)
      .skip
      (.exit 0)))
    (.seq (.block 1
      (.seq (.seq (.regd Tryd.fn5_r13)
       (.trim [9, 10, 11, 62]))
      (.cond (.t 62)
       (.seq (.seq (.reg Tryd.fn5_r14)
        (.trim [4]))
       .ret)
       .skip)))
    (.seq (.reg Tryd.fn5_r15)
    (.trim [9, 10, 11]))))
def Tryd.fn5 : AFun :=
 ⟨63, [.tmp 4],
 (.seq (.seq (.reg Tryd.fn5_r0)
  (.trim [0, 1]))
 (.seq (.seq (.seq (.reg Tryd.fn5_r1)
   (.trim [0, 1, 13]))
  (.cond (.t 13)
   (.seq (.seq (.reg Tryd.fn5_r2)
    (.trim [4]))
   .ret)
   .skip))
 (.seq (.seq (.seq (.reg Tryd.fn5_r3)
   (.trim [0, 1, 16]))
  (.cond (.t 16)
   (.seq (.seq (.reg Tryd.fn5_r4)
    (.trim [4]))
   .ret)
   .skip))
 (.seq (.seq (.reg Tryd.fn5_r5)
  (.trim [0, 1, 5, 6]))
 (.seq (.seq (.reg Tryd.fn5_r6)
  (.trim [0, 1, 5, 6, 7, 8]))
 (.seq (.seq (.reg Tryd.fn5_r7)
  (.trim [5, 6, 7, 8, 9, 10]))
 (.seq (.seq (.seq (.seq (.reg Tryd.fn5_r8)
    (.trim [9, 10, 41, 42]))
   (.seq (.reg Tryd.fn5_r9)
   (.trim [9, 10, 47])))
  (.cond (.t 47)
   (.seq (.seq (.reg Tryd.fn5_r10)
    (.trim [4]))
   .ret)
   .skip))
 (.seq (.seq (.seq (.reg Tryd.fn5_r11)
   (.trim [9, 10, 11]))
  (.block 0
   (.loop (some [9, 10, 11])
    Tryd.fn5_l0)))
 (.seq (.seq (.reg Tryd.fn5_r16)
  (.trim [4]))
 .ret))))))))), true, .none⟩
/-! signalbench/signalbenchlaw56.ReportCounts -/
def Tryd.fn6_r0 : List AIns :=
   [⟨(some 2), .mov (.c (.bool false)), .none⟩]
def Tryd.fn6_r1 : List AIns :=
   [⟨(some 8), .call 8 [], .none⟩,
     ⟨(some 9), .un .not (.t 8), .none⟩]
def Tryd.fn6_r2 : List AIns :=
   [⟨(some 2), .mov (.c (.bool false)), .none⟩]
def Tryd.fn6_r3 : List AIns :=
   [⟨(some 10), .mov (.t 0), .none⟩,
     ⟨(some 11), .call 12 [(.t 10)], .none⟩,
     ⟨(some 12), .un .not (.t 11), .none⟩]
def Tryd.fn6_r4 : List AIns :=
   [⟨(some 2), .mov (.c (.bool true)), .none⟩]
def Tryd.fn6_r5 : List AIns :=
   [⟨(some 13), .mov (.t 0), .none⟩,
    ⟨(some 14), .call 15 [(.t 13), (.c (.int .i64 16))], .none⟩,
    ⟨(some 3), .mov (.t 14), .none⟩]
def Tryd.fn6_r6 : List AIns :=
   [⟨(some 15), .mov (.t 3), .none⟩,
      ⟨(some 16), .lenl (.t 15), .none⟩,
      ⟨(some 17), .bin .neq (.t 16) (.c (.int .i64 16)), .none⟩,
      ⟨(some 18), .mov (.t 17), .none⟩,
      ⟨(some 19), .mov (.t 0), (some (18, false))⟩,
      ⟨(some 20), .call 15 [(.t 19), (.c (.int .i64 (-1)))], (some (18, false))⟩,
      ⟨(some 21), .lenl (.t 20), (some (18, false))⟩,
      ⟨(some 22), .bin .neq (.t 21) (.c (.int .i64 0)), (some (18, false))⟩,
      ⟨(some 23), .pick (.t 18) (.c (.bool true)) (.t 22), .none⟩,
      ⟨(some 24), .mov (.t 23), .none⟩]
def Tryd.fn6_r7 : List AIns :=
   [⟨(some 25), .mov (.t 0), (some (24, false))⟩,
     ⟨(some 26), .call 15 [(.t 25), (.c (.int .i64 17))], (some (24, false))⟩,
     ⟨(some 27), .lenl (.t 26), (some (24, false))⟩,
     ⟨(some 28), .bin .neq (.t 27) (.c (.int .i64 16)), (some (24, false))⟩,
     ⟨(some 29), .pick (.t 24) (.c (.bool true)) (.t 28), .none⟩]
def Tryd.fn6_r8 : List AIns :=
   [⟨(some 2), .mov (.c (.bool false)), .none⟩]
def Tryd.fn6_r9 : List AIns :=
   [⟨(some 4), .mov (.c (.int .i64 0)), .none⟩,
    ⟨(some 5), .mov (.c (.int .i64 0)), .none⟩]
def Tryd.fn6_r10 : List AIns :=
   [⟨(some 6), .mov (.c (.int .i64 0)), .none⟩]
def Tryd.fn6_r11 : List AIns :=
   [⟨(some 30), .mov (.t 6), .none⟩,
        ⟨(some 31), .mov (.t 3), .none⟩,
        ⟨(some 32), .lenl (.t 31), .none⟩,
        ⟨(some 33), .bin .lss (.t 30) (.t 32), .none⟩]
def Tryd.fn6_r12f : List DIns :=
   ⟨⟨(some 72), .pick (.t 60) (.c (.bool true)) (.t 71), .none⟩, [24, 35, 23, 16, 22, 15, 6, 14, 5, 4, 3, 2, 0, 1, 11, 13, 10, 9, 7, 8, 12, 21, 20, 19, 17, 18, 29, 34, 28, 27, 25, 26, 33, 32, 30, 31], [], 0⟩ ::
   []
def Tryd.fn6_r12e : List DIns :=
   ⟨⟨(some 66), .mov (.t 3), (some (60, false))⟩, [24, 23, 16, 22, 15, 6, 14, 5, 4, 3, 2, 0, 1, 11, 13, 10, 9, 7, 8, 12, 21, 20, 19, 17, 18], [32, 33, 34, 35, 36], 0⟩ ::
   ⟨⟨(some 67), .mov (.t 6), (some (60, false))⟩, [24, 23, 16, 22, 15, 6, 14, 5, 4, 3, 2, 0, 1, 11, 13, 10, 9, 7, 8, 12, 21, 20, 19, 17, 18], [32, 33, 34, 35, 36], 0⟩ ::
   ⟨⟨(some 68), .ia 2 (.t 66) (.t 67), (some (60, false))⟩, [30, 31, 24, 23, 16, 22, 15, 6, 14, 5, 4, 3, 2, 0, 1, 11, 13, 10, 9, 7, 8, 12, 21, 20, 19, 17, 18], [33, 34, 35, 36], 0⟩ ::
   ⟨⟨(some 69), .iaa 2 1 (.t 68) (.c (.int .i64 0)), (some (60, false))⟩, [32, 24, 30, 31, 23, 16, 22, 15, 6, 14, 5, 4, 3, 2, 0, 1, 11, 13, 10, 9, 7, 8, 12, 21, 20, 19, 17, 18], [34, 35, 36], 0⟩ ::
   ⟨⟨(some 70), .ld1 (.t 69), (some (60, false))⟩, [33, 24, 32, 30, 31, 23, 16, 22, 15, 6, 14, 5, 4, 3, 2, 0, 1, 11, 13, 10, 9, 7, 8, 12, 21, 20, 19, 17, 18], [35, 36], 1⟩ ::
   ⟨⟨(some 71), .bin .gtr (.t 65) (.t 70), (some (60, false))⟩, [29, 34, 24, 28, 27, 25, 26, 23, 16, 22, 15, 6, 14, 5, 4, 3, 2, 0, 1, 11, 13, 10, 9, 7, 8, 12, 21, 20, 19, 17, 18, 33, 32, 30, 31], [36], 0⟩ ::
   Tryd.fn6_r12f
def Tryd.fn6_r12d : List DIns :=
   ⟨⟨(some 60), .mov (.t 59), .none⟩, [23, 16, 22, 15, 6, 14, 5, 4, 3, 2, 0, 1, 11, 13, 10, 9, 7, 8, 12, 21, 20, 19, 17, 18], [25, 26, 27, 28, 29, 30, 31, 32, 33, 34, 35, 36], 0⟩ ::
   ⟨⟨(some 61), .mov (.t 3), (some (60, false))⟩, [24, 23, 16, 22, 15, 6, 14, 5, 4, 3, 2, 0, 1, 11, 13, 10, 9, 7, 8, 12, 21, 20, 19, 17, 18], [27, 28, 29, 35, 36], 0⟩ ::
   ⟨⟨(some 62), .mov (.t 6), (some (60, false))⟩, [24, 23, 16, 22, 15, 6, 14, 5, 4, 3, 2, 0, 1, 11, 13, 10, 9, 7, 8, 12, 21, 20, 19, 17, 18], [27, 28, 29, 35, 36], 0⟩ ::
   ⟨⟨(some 63), .ia 2 (.t 61) (.t 62), (some (60, false))⟩, [25, 26, 24, 23, 16, 22, 15, 6, 14, 5, 4, 3, 2, 0, 1, 11, 13, 10, 9, 7, 8, 12, 21, 20, 19, 17, 18], [28, 29, 35, 36], 0⟩ ::
   ⟨⟨(some 64), .iaa 2 1 (.t 63) (.c (.int .i64 1)), (some (60, false))⟩, [27, 24, 25, 26, 23, 16, 22, 15, 6, 14, 5, 4, 3, 2, 0, 1, 11, 13, 10, 9, 7, 8, 12, 21, 20, 19, 17, 18], [29, 35, 36], 0⟩ ::
   ⟨⟨(some 65), .ld1 (.t 64), (some (60, false))⟩, [28, 24, 27, 25, 26, 23, 16, 22, 15, 6, 14, 5, 4, 3, 2, 0, 1, 11, 13, 10, 9, 7, 8, 12, 21, 20, 19, 17, 18], [35, 36], 1⟩ ::
   Tryd.fn6_r12e
def Tryd.fn6_r12c : List DIns :=
   ⟨⟨(some 54), .mov (.t 6), (some (52, false))⟩, [16, 15, 6, 14, 5, 4, 3, 2, 0, 1, 11, 13, 10, 9, 7, 8, 12], [19, 20, 21, 22, 23, 24, 25, 26, 27, 28, 29, 30, 31, 32, 33, 34, 35, 36], 0⟩ ::
   ⟨⟨(some 55), .ia 2 (.t 53) (.t 54), (some (52, false))⟩, [17, 18, 16, 15, 6, 14, 5, 4, 3, 2, 0, 1, 11, 13, 10, 9, 7, 8, 12], [20, 21, 22, 23, 24, 25, 26, 27, 28, 29, 30, 31, 32, 33, 34, 35, 36], 0⟩ ::
   ⟨⟨(some 56), .iaa 2 1 (.t 55) (.c (.int .i64 1)), (some (52, false))⟩, [19, 16, 17, 18, 15, 6, 14, 5, 4, 3, 2, 0, 1, 11, 13, 10, 9, 7, 8, 12], [21, 22, 23, 24, 25, 26, 27, 28, 29, 30, 31, 32, 33, 34, 35, 36], 0⟩ ::
   ⟨⟨(some 57), .ld1 (.t 56), (some (52, false))⟩, [20, 16, 19, 17, 18, 15, 6, 14, 5, 4, 3, 2, 0, 1, 11, 13, 10, 9, 7, 8, 12], [22, 23, 24, 25, 26, 27, 28, 29, 30, 31, 32, 33, 34, 35, 36], 2⟩ ::
   ⟨⟨(some 58), .bin .lss (.t 57) (.c (.int .i64 0)), (some (52, false))⟩, [21, 16, 20, 19, 17, 18, 15, 6, 14, 5, 4, 3, 2, 0, 1, 11, 13, 10, 9, 7, 8, 12], [23, 24, 25, 26, 27, 28, 29, 30, 31, 32, 33, 34, 35, 36], 0⟩ ::
   ⟨⟨(some 59), .pick (.t 52) (.c (.bool true)) (.t 58), .none⟩, [16, 22, 15, 6, 14, 5, 4, 3, 2, 0, 1, 11, 13, 10, 9, 7, 8, 12, 21, 20, 19, 17, 18], [24, 25, 26, 27, 28, 29, 30, 31, 32, 33, 34, 35, 36], 0⟩ ::
   Tryd.fn6_r12d
def Tryd.fn6_r12b : List DIns :=
   ⟨⟨(some 48), .mov (.t 0), (some (42, false))⟩, [6, 5, 4, 3, 2, 0, 1], [13, 14, 15, 16, 17, 18, 19, 20, 21, 22, 23, 24, 25, 26, 27, 28, 29, 30, 31, 32, 33, 34, 35, 36], 0⟩ ::
   ⟨⟨(some 49), .lenl (.t 48), (some (42, false))⟩, [12, 6, 5, 4, 3, 2, 0, 1], [14, 15, 16, 17, 18, 19, 20, 21, 22, 23, 24, 25, 26, 27, 28, 29, 30, 31, 32, 33, 34, 35, 36], 0⟩ ::
   ⟨⟨(some 50), .bin .gtr (.t 47) (.t 49), (some (42, false))⟩, [11, 13, 6, 10, 9, 7, 8, 5, 4, 3, 2, 0, 1, 12], [15, 16, 17, 18, 19, 20, 21, 22, 23, 24, 25, 26, 27, 28, 29, 30, 31, 32, 33, 34, 35, 36], 0⟩ ::
   ⟨⟨(some 51), .pick (.t 42) (.c (.bool true)) (.t 50), .none⟩, [6, 14, 5, 4, 3, 2, 0, 1, 11, 13, 10, 9, 7, 8, 12], [16, 17, 18, 19, 20, 21, 22, 23, 24, 25, 26, 27, 28, 29, 30, 31, 32, 33, 34, 35, 36], 0⟩ ::
   ⟨⟨(some 52), .mov (.t 51), .none⟩, [15, 6, 14, 5, 4, 3, 2, 0, 1, 11, 13, 10, 9, 7, 8, 12], [17, 18, 19, 20, 21, 22, 23, 24, 25, 26, 27, 28, 29, 30, 31, 32, 33, 34, 35, 36], 0⟩ ::
   ⟨⟨(some 53), .mov (.t 3), (some (52, false))⟩, [16, 15, 6, 14, 5, 4, 3, 2, 0, 1, 11, 13, 10, 9, 7, 8, 12], [19, 20, 21, 22, 23, 24, 25, 26, 27, 28, 29, 30, 31, 32, 33, 34, 35, 36], 0⟩ ::
   Tryd.fn6_r12c
def Tryd.fn6_r12a : List DIns :=
   ⟨⟨(some 42), .mov (.t 41), .none⟩, [5, 4, 3, 2, 0, 1], [7, 8, 9, 10, 11, 12, 13, 14, 15, 16, 17, 18, 19, 20, 21, 22, 23, 24, 25, 26, 27, 28, 29, 30, 31, 32, 33, 34, 35, 36], 0⟩ ::
   ⟨⟨(some 43), .mov (.t 3), (some (42, false))⟩, [6, 5, 4, 3, 2, 0, 1], [9, 10, 11, 14, 15, 16, 17, 18, 19, 20, 21, 22, 23, 24, 25, 26, 27, 28, 29, 30, 31, 32, 33, 34, 35, 36], 0⟩ ::
   ⟨⟨(some 44), .mov (.t 6), (some (42, false))⟩, [6, 5, 4, 3, 2, 0, 1], [9, 10, 11, 14, 15, 16, 17, 18, 19, 20, 21, 22, 23, 24, 25, 26, 27, 28, 29, 30, 31, 32, 33, 34, 35, 36], 0⟩ ::
   ⟨⟨(some 45), .ia 2 (.t 43) (.t 44), (some (42, false))⟩, [7, 8, 6, 5, 4, 3, 2, 0, 1], [10, 11, 14, 15, 16, 17, 18, 19, 20, 21, 22, 23, 24, 25, 26, 27, 28, 29, 30, 31, 32, 33, 34, 35, 36], 0⟩ ::
   ⟨⟨(some 46), .iaa 2 1 (.t 45) (.c (.int .i64 0)), (some (42, false))⟩, [9, 6, 7, 8, 5, 4, 3, 2, 0, 1], [11, 14, 15, 16, 17, 18, 19, 20, 21, 22, 23, 24, 25, 26, 27, 28, 29, 30, 31, 32, 33, 34, 35, 36], 0⟩ ::
   ⟨⟨(some 47), .ld1 (.t 46), (some (42, false))⟩, [10, 6, 9, 7, 8, 5, 4, 3, 2, 0, 1], [14, 15, 16, 17, 18, 19, 20, 21, 22, 23, 24, 25, 26, 27, 28, 29, 30, 31, 32, 33, 34, 35, 36], 2⟩ ::
   Tryd.fn6_r12b
def Tryd.fn6_r12 : List DIns :=
   ⟨⟨(some 36), .mov (.t 3), .none⟩, [], [2, 3, 4, 5, 6, 7, 8, 9, 10, 11, 12, 13, 14, 15, 16, 17, 18, 19, 20, 21, 22, 23, 24, 25, 26, 27, 28, 29, 30, 31, 32, 33, 34, 35, 36], 0⟩ ::
   ⟨⟨(some 37), .mov (.t 6), .none⟩, [], [2, 3, 4, 5, 6, 7, 8, 9, 10, 11, 12, 13, 14, 15, 16, 17, 18, 19, 20, 21, 22, 23, 24, 25, 26, 27, 28, 29, 30, 31, 32, 33, 34, 35, 36], 0⟩ ::
   ⟨⟨(some 38), .ia 2 (.t 36) (.t 37), .none⟩, [0, 1], [3, 4, 5, 6, 7, 8, 9, 10, 11, 12, 13, 14, 15, 16, 17, 18, 19, 20, 21, 22, 23, 24, 25, 26, 27, 28, 29, 30, 31, 32, 33, 34, 35, 36], 0⟩ ::
   ⟨⟨(some 39), .iaa 2 1 (.t 38) (.c (.int .i64 0)), .none⟩, [2, 0, 1], [4, 5, 6, 7, 8, 9, 10, 11, 12, 13, 14, 15, 16, 17, 18, 19, 20, 21, 22, 23, 24, 25, 26, 27, 28, 29, 30, 31, 32, 33, 34, 35, 36], 0⟩ ::
   ⟨⟨(some 40), .ld1 (.t 39), .none⟩, [3, 2, 0, 1], [5, 6, 7, 8, 9, 10, 11, 12, 13, 14, 15, 16, 17, 18, 19, 20, 21, 22, 23, 24, 25, 26, 27, 28, 29, 30, 31, 32, 33, 34, 35, 36], 2⟩ ::
   ⟨⟨(some 41), .bin .lss (.t 40) (.c (.int .i64 0)), .none⟩, [4, 3, 2, 0, 1], [6, 7, 8, 9, 10, 11, 12, 13, 14, 15, 16, 17, 18, 19, 20, 21, 22, 23, 24, 25, 26, 27, 28, 29, 30, 31, 32, 33, 34, 35, 36], 0⟩ ::
   Tryd.fn6_r12a
def Tryd.fn6_r13 : List AIns :=
   [⟨(some 2), .mov (.c (.bool false)), .none⟩]
def Tryd.fn6_r14 : List AIns :=
   [⟨(some 73), .mov (.t 5), .none⟩,
        ⟨(some 74), .mov (.t 3), .none⟩,
        ⟨(some 75), .mov (.t 6), .none⟩,
        ⟨(some 76), .ia 2 (.t 74) (.t 75), .none⟩,
        ⟨(some 77), .iaa 2 1 (.t 76) (.c (.int .i64 0)), .none⟩,
        ⟨(some 78), .ld1 (.t 77), .none⟩,
        ⟨(some 79), .bin .add (.t 73) (.t 78), .none⟩,
        ⟨(some 5), .mov (.t 79), .none⟩]
def Tryd.fn6_r15 : List AIns :=
   [⟨(some 34), .mov (.t 6), .none⟩,
      ⟨(some 35), .bin .add (.t 34) (.c (.int .i64 1)), .none⟩,
      ⟨(some 6), .mov (.t 35), .none⟩]
def Tryd.fn6_r16 : List AIns :=
   [⟨(some 7), .mov (.c (.int .i64 0)), .none⟩]
def Tryd.fn6_r17 : List AIns :=
   [⟨(some 80), .mov (.t 7), .none⟩,
        ⟨(some 81), .mov (.t 0), .none⟩,
        ⟨(some 82), .lenl (.t 81), .none⟩,
        ⟨(some 83), .bin .lss (.t 80) (.t 82), .none⟩]
def Tryd.fn6_r18 : List AIns :=
   [⟨(some 86), .mov (.t 0), .none⟩,
          ⟨(some 87), .mov (.t 7), .none⟩,
          ⟨(some 88), .ia 9 (.t 86) (.t 87), .none⟩,
          ⟨(some 89), .fa 0 (.t 88), .none⟩,
          ⟨(some 90), .ld1 (.t 89), .none⟩,
          ⟨(some 91), .bin .geq (.t 90) (.c (.int .i64 0)), .none⟩,
          ⟨(some 92), .mov (.t 91), .none⟩,
          ⟨(some 93), .mov (.t 0), (some (92, true))⟩,
          ⟨(some 94), .mov (.t 7), (some (92, true))⟩,
          ⟨(some 95), .ia 9 (.t 93) (.t 94), (some (92, true))⟩]
def Tryd.fn6_r19 : List AIns :=
   [⟨(some 96), .fa 0 (.t 95), (some (92, true))⟩,
         ⟨(some 97), .ld1 (.t 96), (some (92, true))⟩,
         ⟨(some 98), .bin .lss (.t 97) (.c (.int .i64 16)), (some (92, true))⟩,
         ⟨(some 99), .pick (.t 92) (.t 98) (.c (.bool false)), .none⟩]
def Tryd.fn6_r20 : List AIns :=
   [⟨(some 100), .mov (.t 4), .none⟩,
         ⟨(some 101), .bin .add (.t 100) (.c (.int .i64 1)), .none⟩,
         ⟨(some 4), .mov (.t 101), .none⟩]
def Tryd.fn6_r21 : List AIns :=
   [⟨(some 84), .mov (.t 7), .none⟩,
      ⟨(some 85), .bin .add (.t 84) (.c (.int .i64 1)), .none⟩,
      ⟨(some 7), .mov (.t 85), .none⟩]
def Tryd.fn6_r22 : List AIns :=
   [⟨(some 102), .mov (.t 4), .none⟩,
    ⟨(some 103), .mov (.t 5), .none⟩,
    ⟨(some 104), .bin .eql (.t 102) (.t 103), .none⟩,
    ⟨(some 2), .mov (.t 104), .none⟩]
def Tryd.fn6_l0 : ACode :=
 (.seq (.seq (.seq (.reg Tryd.fn6_r17)
      (.trim [0, 4, 5, 7, 83]))
     (.cond (.t 83)
      .skip
      (.exit 2)))
    (.seq (.block 3
      (.seq (.seq (.seq (.reg Tryd.fn6_r18)
        (.trim [0, 4, 5, 7, 92, 95]))
       (.seq (.reg Tryd.fn6_r19)
       (.trim [0, 4, 5, 7, 99])))
      (.cond (.t 99)
       (.seq (.reg Tryd.fn6_r20)
       (.trim [0, 4, 5, 7]))
       .skip)))
    (.seq (.reg Tryd.fn6_r21)
    (.trim [0, 4, 5, 7]))))
def Tryd.fn6_l1 : ACode :=
 (.seq (.seq (.seq (.reg Tryd.fn6_r11)
      (.trim [0, 3, 4, 5, 6, 33]))
     (.cond (.t 33)
      .skip
      (.exit 0)))
    (.seq (.block 1
      (.seq (.seq (.seq (.regd Tryd.fn6_r12)
        (.trim [0, 3, 4, 5, 6, 72]))
       (.cond (.t 72)
        (.seq (.seq (.reg Tryd.fn6_r13)
         (.trim [2]))
        .ret)
        .skip))
      (.seq (.reg Tryd.fn6_r14)
      (.trim [0, 3, 4, 5, 6]))))
    (.seq (.reg Tryd.fn6_r15)
    (.trim [0, 3, 4, 5, 6]))))
def Tryd.fn6 : AFun :=
 ⟨105, [.tmp 2],
 (.seq (.seq (.reg Tryd.fn6_r0)
  (.trim [0]))
 (.seq (.seq (.seq (.reg Tryd.fn6_r1)
   (.trim [0, 9]))
  (.cond (.t 9)
   (.seq (.seq (.reg Tryd.fn6_r2)
    (.trim [2]))
   .ret)
   .skip))
 (.seq (.seq (.seq (.reg Tryd.fn6_r3)
   (.trim [0, 12]))
  (.cond (.t 12)
   (.seq (.seq (.reg Tryd.fn6_r4)
    (.trim [2]))
   .ret)
   .skip))
 (.seq (.seq (.reg Tryd.fn6_r5)
  (.trim [0, 3]))
 (.seq (.seq (.seq (.seq (.reg Tryd.fn6_r6)
    (.trim [0, 3, 24]))
   (.seq (.reg Tryd.fn6_r7)
   (.trim [0, 3, 29])))
  (.cond (.t 29)
   (.seq (.seq (.reg Tryd.fn6_r8)
    (.trim [2]))
   .ret)
   .skip))
 (.seq (.seq (.reg Tryd.fn6_r9)
  (.trim [0, 3, 4, 5]))
 (.seq (.seq (.seq (.reg Tryd.fn6_r10)
   (.trim [0, 3, 4, 5, 6]))
  (.block 0
   (.loop (some [0, 3, 4, 5, 6])
    Tryd.fn6_l1)))
 (.seq (.seq (.seq (.reg Tryd.fn6_r16)
   (.trim [0, 4, 5, 7]))
  (.block 2
   (.loop (some [0, 4, 5, 7])
    Tryd.fn6_l0)))
 (.seq (.seq (.reg Tryd.fn6_r22)
  (.trim [2]))
 .ret))))))))), true, .none⟩
/-! signalbench/signalbenchlaw56.ReportRows -/
def Tryd.fn7_r0 : List AIns :=
   [⟨(some 2), .mov (.c (.bool false)), .none⟩]
def Tryd.fn7_r1 : List AIns :=
   [⟨(some 7), .call 8 [], .none⟩,
     ⟨(some 8), .un .not (.t 7), .none⟩]
def Tryd.fn7_r2 : List AIns :=
   [⟨(some 2), .mov (.c (.bool false)), .none⟩]
def Tryd.fn7_r3 : List AIns :=
   [⟨(some 9), .mov (.t 0), .none⟩,
     ⟨(some 10), .lens (.t 9), .none⟩,
     ⟨(some 11), .bin .gtr (.t 10) (.c (.int .i64 20000)), .none⟩]
def Tryd.fn7_r4 : List AIns :=
   [⟨(some 2), .mov (.c (.bool true)), .none⟩]
def Tryd.fn7_r5 : List AIns :=
   [⟨(some 13), .mov (.t 0), .none⟩,
    ⟨(some 14), .call 17 [(.t 13)], .none⟩,
    ⟨(some 12), .mov (.t 14), .none⟩,
    ⟨(some 15), .ext 0 (.t 12), .none⟩,
    ⟨(some 16), .ext 1 (.t 12), .none⟩,
    ⟨(some 3), .mov (.t 15), .none⟩,
    ⟨(some 4), .mov (.t 16), .none⟩]
def Tryd.fn7_r6 : List AIns :=
   [⟨(some 18), .mov (.t 0), .none⟩,
    ⟨(some 19), .call 18 [(.t 18)], .none⟩,
    ⟨(some 17), .mov (.t 19), .none⟩,
    ⟨(some 20), .ext 0 (.t 17), .none⟩,
    ⟨(some 21), .ext 1 (.t 17), .none⟩,
    ⟨(some 5), .mov (.t 20), .none⟩,
    ⟨(some 6), .mov (.t 21), .none⟩]
def Tryd.fn7_r7 : List AIns :=
   [⟨(some 22), .mov (.t 3), .none⟩,
    ⟨(some 23), .mov (.t 5), .none⟩,
    ⟨(some 24), .call 19 [(.t 22), (.t 23)], .none⟩,
    ⟨(some 25), .mov (.t 24), .none⟩,
    ⟨(some 26), .mov (.t 4), (some (25, true))⟩,
    ⟨(some 27), .mov (.t 6), (some (25, true))⟩,
    ⟨(some 28), .bin .eql (.t 26) (.t 27), (some (25, true))⟩,
    ⟨(some 29), .pick (.t 25) (.t 28) (.c (.bool false)), .none⟩,
    ⟨(some 2), .mov (.t 29), .none⟩]
def Tryd.fn7 : AFun :=
 ⟨30, [.tmp 2],
 (.seq (.seq (.reg Tryd.fn7_r0)
  (.trim [0]))
 (.seq (.seq (.seq (.reg Tryd.fn7_r1)
   (.trim [0, 8]))
  (.cond (.t 8)
   (.seq (.seq (.reg Tryd.fn7_r2)
    (.trim [2]))
   .ret)
   .skip))
 (.seq (.seq (.seq (.reg Tryd.fn7_r3)
   (.trim [0, 11]))
  (.cond (.t 11)
   (.seq (.seq (.reg Tryd.fn7_r4)
    (.trim [2]))
   .ret)
   .skip))
 (.seq (.seq (.reg Tryd.fn7_r5)
  (.trim [0, 3, 4]))
 (.seq (.seq (.reg Tryd.fn7_r6)
  (.trim [3, 4, 5, 6]))
 (.seq (.seq (.reg Tryd.fn7_r7)
  (.trim [2]))
 .ret)))))), false, .none⟩
/-! signalbench/signalbenchlaw56.lives -/
def Tryd.fn8_r0 : List AIns :=
   [⟨(some 0), .mov (.c (.bool false)), .none⟩]
def Tryd.fn8_r1 : List AIns :=
   [⟨(some 6), .bsl 9 1 2 [(.str [])] [(0, 1, (.c (.str [97]))), (1, 1, (.c (.str [98, 99])))], .none⟩,
    ⟨(some 7), .bsl 9 1 2 [(.str [])] [(0, 1, (.c (.str [100, 101, 102]))), (1, 1, (.c (.str [103])))], .none⟩,
    ⟨(some 8), .bsl 29 1 2 [.nils] [(0, 1, (.t 6)), (1, 1, (.t 7))], .none⟩,
    ⟨(some 9), .call 10 [(.t 8)], .none⟩,
    ⟨(some 5), .mov (.t 9), .none⟩,
    ⟨(some 10), .ext 0 (.t 5), .none⟩,
    ⟨(some 11), .ext 1 (.t 5), .none⟩,
    ⟨(some 1), .mov (.t 10), .none⟩,
    ⟨(some 2), .mov (.t 11), .none⟩]
def Tryd.fn8_r2 : List AIns :=
   [⟨(some 13), .bld [(.int .i64 0), (.int .i64 0), (.int .i64 0), (.int .i64 0), (.int .i64 0), (.str []), (.int .i64 0)] [(0, 1, (.c (.int .i64 3))), (1, 1, (.c (.int .i64 10))), (2, 1, (.c (.int .i64 20))), (3, 1, (.c (.int .i64 65)))], .none⟩,
    ⟨(some 14), .bld [(.int .i64 0), (.int .i64 0), (.int .i64 0), (.int .i64 0), (.int .i64 0), (.int .i64 0), (.int .i64 0), (.str []), (.int .i64 0)] [(0, 1, (.c (.int .i64 1))), (1, 1, (.c (.int .i64 20))), (2, 7, (.t 13))], .none⟩,
    ⟨(some 15), .bsl 40 9 1 [(.int .i64 0), (.int .i64 0), (.int .i64 0), (.int .i64 0), (.int .i64 0), (.int .i64 0), (.int .i64 0), (.str []), (.int .i64 0)] [(0, 9, (.t 14))], .none⟩,
    ⟨(some 16), .call 13 [(.t 15)], .none⟩,
    ⟨(some 12), .mov (.t 16), .none⟩,
    ⟨(some 17), .ext 0 (.t 12), .none⟩,
    ⟨(some 18), .ext 1 (.t 12), .none⟩,
    ⟨(some 3), .mov (.t 17), .none⟩,
    ⟨(some 4), .mov (.t 18), .none⟩]
def Tryd.fn8_r3 : List AIns :=
   [⟨(some 19), .mov (.t 1), .none⟩,
     ⟨(some 20), .bin .eql (.t 19) (.c (.str [97, 32, 32, 32, 32, 98, 99, 10, 100, 101, 102, 32, 32, 103, 10])), .none⟩,
     ⟨(some 21), .mov (.t 20), .none⟩,
     ⟨(some 22), .mov (.t 2), (some (21, true))⟩,
     ⟨(some 23), .bin .eql (.t 22) (.c (.int .i64 0)), (some (21, true))⟩,
     ⟨(some 24), .pick (.t 21) (.t 23) (.c (.bool false)), .none⟩,
     ⟨(some 25), .mov (.t 24), .none⟩,
     ⟨(some 26), .mov (.t 3), (some (25, true))⟩,
     ⟨(some 27), .bin .eql (.t 26) (.c (.str [49, 32, 50, 48, 32, 98, 121, 116, 101, 32, 49, 48, 32, 50, 48, 32, 54, 53, 32, 48, 32, 48, 32, 34, 34, 10])), (some (25, true))⟩,
     ⟨(some 28), .pick (.t 25) (.t 27) (.c (.bool false)), .none⟩]
def Tryd.fn8_r4 : List AIns :=
   [⟨(some 29), .mov (.t 28), .none⟩,
    ⟨(some 30), .mov (.t 4), (some (29, true))⟩,
    ⟨(some 31), .bin .eql (.t 30) (.c (.int .i64 0)), (some (29, true))⟩,
    ⟨(some 32), .pick (.t 29) (.t 31) (.c (.bool false)), .none⟩,
    ⟨(some 0), .mov (.t 32), .none⟩]
def Tryd.fn8 : AFun :=
 ⟨33, [.tmp 0],
 (.seq (.seq (.reg Tryd.fn8_r0)
  (.trim []))
 (.seq (.seq (.reg Tryd.fn8_r1)
  (.trim [1, 2]))
 (.seq (.seq (.reg Tryd.fn8_r2)
  (.trim [1, 2, 3, 4]))
 (.seq (.seq (.seq (.reg Tryd.fn8_r3)
   (.trim [4, 28]))
  (.seq (.reg Tryd.fn8_r4)
  (.trim [0])))
 .ret)))), true, .none⟩
/-! signalbench/signalbenchlaw56.small -/
def Tryd.fn9_r0 : List AIns :=
   [⟨(some 2), .mov (.c (.bool false)), .none⟩]
def Tryd.fn9_r1 : List AIns :=
   [⟨(some 5), .mov (.t 0), .none⟩,
     ⟨(some 6), .lenl (.t 5), .none⟩,
     ⟨(some 7), .bin .gtr (.t 6) (.c (.int .i64 60)), .none⟩]
def Tryd.fn9_r2 : List AIns :=
   [⟨(some 2), .mov (.c (.bool false)), .none⟩]
def Tryd.fn9_r3 : List AIns :=
   [⟨(some 3), .mov (.c (.int .i64 0)), .none⟩]
def Tryd.fn9_r4 : List AIns :=
   [⟨(some 8), .mov (.t 3), .none⟩,
        ⟨(some 9), .mov (.t 0), .none⟩,
        ⟨(some 10), .lenl (.t 9), .none⟩,
        ⟨(some 11), .bin .lss (.t 8) (.t 10), .none⟩]
def Tryd.fn9_r5 : List AIns :=
   [⟨(some 14), .mov (.t 0), .none⟩,
          ⟨(some 15), .mov (.t 3), .none⟩,
          ⟨(some 16), .ia 1 (.t 14) (.t 15), .none⟩,
          ⟨(some 17), .ld1 (.t 16), .none⟩,
          ⟨(some 18), .lenl (.t 17), .none⟩,
          ⟨(some 19), .bin .gtr (.t 18) (.c (.int .i64 60)), .none⟩]
def Tryd.fn9_r6 : List AIns :=
   [⟨(some 2), .mov (.c (.bool false)), .none⟩]
def Tryd.fn9_r7 : List AIns :=
   [⟨(some 4), .mov (.c (.int .i64 0)), .none⟩]
def Tryd.fn9_r8 : List AIns :=
   [⟨(some 20), .mov (.t 4), .none⟩,
            ⟨(some 21), .mov (.t 0), .none⟩,
            ⟨(some 22), .mov (.t 3), .none⟩,
            ⟨(some 23), .ia 1 (.t 21) (.t 22), .none⟩,
            ⟨(some 24), .ld1 (.t 23), .none⟩,
            ⟨(some 25), .lenl (.t 24), .none⟩,
            ⟨(some 26), .bin .lss (.t 20) (.t 25), .none⟩]
def Tryd.fn9_r9 : List AIns :=
   [⟨(some 29), .mov (.t 0), .none⟩,
             ⟨(some 30), .mov (.t 3), .none⟩,
             ⟨(some 31), .ia 1 (.t 29) (.t 30), .none⟩,
             ⟨(some 32), .ld1 (.t 31), .none⟩,
             ⟨(some 33), .mov (.t 4), .none⟩,
             ⟨(some 34), .ia 1 (.t 32) (.t 33), .none⟩,
             ⟨(some 35), .ld1 (.t 34), .none⟩,
             ⟨(some 36), .lens (.t 35), .none⟩,
             ⟨(some 37), .bin .gtr (.t 36) (.c (.int .i64 1000)), .none⟩]
def Tryd.fn9_r10 : List AIns :=
   [⟨(some 2), .mov (.c (.bool false)), .none⟩]
def Tryd.fn9_r11 : List AIns :=
   [⟨(some 27), .mov (.t 4), .none⟩,
          ⟨(some 28), .bin .add (.t 27) (.c (.int .i64 1)), .none⟩,
          ⟨(some 4), .mov (.t 28), .none⟩]
def Tryd.fn9_r12 : List AIns :=
   [⟨(some 12), .mov (.t 3), .none⟩,
      ⟨(some 13), .bin .add (.t 12) (.c (.int .i64 1)), .none⟩,
      ⟨(some 3), .mov (.t 13), .none⟩]
def Tryd.fn9_r13 : List AIns :=
   [⟨(some 2), .mov (.c (.bool true)), .none⟩]
def Tryd.fn9_l0 : ACode :=
 (.seq (.seq (.seq (.reg Tryd.fn9_r8)
          (.trim [0, 3, 4, 26]))
         (.cond (.t 26)
          .skip
          (.exit 2)))
        (.seq (.block 3
          (.seq (.seq (.reg Tryd.fn9_r9)
           (.trim [0, 3, 4, 37]))
          (.cond (.t 37)
           (.seq (.seq (.reg Tryd.fn9_r10)
            (.trim [2]))
           .ret)
           .skip)))
        (.seq (.reg Tryd.fn9_r11)
        (.trim [0, 3, 4]))))
def Tryd.fn9_l1 : ACode :=
 (.seq (.seq (.seq (.reg Tryd.fn9_r4)
      (.trim [0, 3, 11]))
     (.cond (.t 11)
      .skip
      (.exit 0)))
    (.seq (.block 1
      (.seq (.seq (.seq (.reg Tryd.fn9_r5)
        (.trim [0, 3, 19]))
       (.cond (.t 19)
        (.seq (.seq (.reg Tryd.fn9_r6)
         (.trim [2]))
        .ret)
        .skip))
      (.seq (.seq (.reg Tryd.fn9_r7)
       (.trim [0, 3, 4]))
      (.block 2
       (.loop (some [0, 3, 4])
        Tryd.fn9_l0)))))
    (.seq (.reg Tryd.fn9_r12)
    (.trim [0, 3]))))
def Tryd.fn9 : AFun :=
 ⟨38, [.tmp 2],
 (.seq (.seq (.reg Tryd.fn9_r0)
  (.trim [0]))
 (.seq (.seq (.seq (.reg Tryd.fn9_r1)
   (.trim [0, 7]))
  (.cond (.t 7)
   (.seq (.seq (.reg Tryd.fn9_r2)
    (.trim [2]))
   .ret)
   .skip))
 (.seq (.seq (.seq (.reg Tryd.fn9_r3)
   (.trim [0, 3]))
  (.block 0
   (.loop (some [0, 3])
    Tryd.fn9_l1)))
 (.seq (.seq (.reg Tryd.fn9_r13)
  (.trim [2]))
 .ret)))), false, .none⟩
/-! signalbench/report.Table -/
def Tryd.fn10_r0 : List AIns :=
   [⟨(some 2), .mov (.c (.str [])), .none⟩,
    ⟨(some 3), .mov (.c (.int .i64 0)), .none⟩]
def Tryd.fn10_r1 : List AIns :=
   [⟨(some 12), .mov (.t 0), .none⟩,
    ⟨(some 13), .call 20 [(.t 12)], .none⟩,
    ⟨(some 11), .mov (.t 13), .none⟩,
    ⟨(some 14), .ext 0 (.t 11), .none⟩,
    ⟨(some 15), .ext 1 (.t 11), .none⟩,
    ⟨(some 4), .mov (.t 14), .none⟩,
    ⟨(some 5), .mov (.t 15), .none⟩]
def Tryd.fn10_r2 : List AIns :=
   [⟨(some 16), .mov (.t 5), .none⟩,
     ⟨(some 17), .un .not (.t 16), .none⟩]
def Tryd.fn10_r3 : List AIns :=
   [⟨(some 2), .mov (.c (.str [])), .none⟩,
      ⟨(some 3), .mov (.c (.int .i64 1)), .none⟩]
def Tryd.fn10_r4 : List AIns :=
   [⟨(some 18), .mov (.t 0), .none⟩,
     ⟨(some 19), .mov (.t 4), .none⟩,
     ⟨(some 20), .call 21 [(.t 18), (.t 19)], .none⟩,
     ⟨(some 21), .bin .gtr (.t 20) (.c (.int .i64 1048576)), .none⟩]
def Tryd.fn10_r5 : List AIns :=
   [⟨(some 2), .mov (.c (.str [])), .none⟩,
      ⟨(some 3), .mov (.c (.int .i64 6)), .none⟩]
def Tryd.fn10_r6 : List AIns :=
   [⟨(some 6), .alloc 51 [.nilp, .nils], .none⟩]
def Tryd.fn10_r7 : List AIns :=
   [⟨(some 22), .mov (.t 0), .none⟩,
     ⟨(some 23), .lenl (.t 22), .none⟩,
     ⟨(some 24), .mov (.c (.int .i64 0)), .none⟩]
def Tryd.fn10_r8 : List AIns :=
   [⟨(some 25), .bin .lss (.t 24) (.t 23), .none⟩]
def Tryd.fn10_r9 : List AIns :=
   [⟨(some 26), .ia 1 (.t 22) (.t 24), .none⟩,
         ⟨(some 27), .ld1 (.t 26), .none⟩,
         ⟨(some 8), .mov (.t 27), .none⟩]
def Tryd.fn10_r10 : List AIns :=
   [⟨(some 28), .mov (.t 8), .none⟩,
          ⟨(some 29), .lenl (.t 28), .none⟩,
          ⟨(some 30), .mov (.c (.int .i64 0)), .none⟩]
def Tryd.fn10_r11 : List AIns :=
   [⟨(some 31), .bin .lss (.t 30) (.t 29), .none⟩]
def Tryd.fn10_r12 : List AIns :=
   [⟨(some 32), .mov (.t 30), .none⟩,
              ⟨(some 33), .ia 1 (.t 28) (.t 30), .none⟩,
              ⟨(some 34), .ld1 (.t 33), .none⟩,
              ⟨(some 9), .mov (.t 32), .none⟩,
              ⟨(some 10), .mov (.t 34), .none⟩]
def Tryd.fn10_r13 : List AIns :=
   [⟨(some 35), .mov (.t 10), .none⟩,
              ⟨(some 36), .mov (.t 4), .none⟩,
              ⟨(some 37), .mov (.t 9), .none⟩,
              ⟨(some 38), .ia 1 (.t 36) (.t 37), .none⟩,
              ⟨(some 39), .ld1 (.t 38), .none⟩,
              ⟨(some 40), .mov (.t 9), .none⟩,
              ⟨(some 41), .mov (.t 8), .none⟩,
              ⟨(some 42), .lenl (.t 41), .none⟩,
              ⟨(some 43), .bin .sub (.t 42) (.c (.int .i64 1)), .none⟩,
              ⟨(some 44), .bin .eql (.t 40) (.t 43), .none⟩]
def Tryd.fn10_r14 : List AIns :=
   [⟨(some 45), .call 22 [(.t 6), (.t 35), (.t 39), (.t 44)], .none⟩]
def Tryd.fn10_r15 : List AIns :=
   [⟨(some 46), .bin .add (.t 30) (.c (.int .i64 1)), .none⟩,
           ⟨(some 30), .mov (.t 46), .none⟩]
def Tryd.fn10_r16 : List AIns :=
   [⟨(some 47), .call 23 [(.t 6), (.c (.int .u8 10))], .none⟩]
def Tryd.fn10_r17 : List AIns :=
   [⟨(some 48), .bin .add (.t 24) (.c (.int .i64 1)), .none⟩,
      ⟨(some 24), .mov (.t 48), .none⟩]
def Tryd.fn10_r18 : List AIns :=
   [⟨(some 49), .call 24 [(.t 6)], .none⟩,
    ⟨(some 2), .mov (.t 49), .none⟩,
    ⟨(some 3), .mov (.c (.int .i64 0)), .none⟩]
def Tryd.fn10_l0 : ACode :=
 (.seq (.seq (.reg Tryd.fn10_r11)
          (.trim [4, 6, 8, 22, 23, 24, 28, 29, 30, 31]))
         (.seq (.cond (.t 31)
           .skip
           (.exit 2))
         (.seq (.block 3
           (.seq (.seq (.reg Tryd.fn10_r12)
            (.trim [4, 6, 8, 9, 10, 22, 23, 24, 28, 29, 30]))
           (.seq (.seq (.reg Tryd.fn10_r13)
            (.trim [4, 6, 8, 22, 23, 24, 28, 29, 30, 35, 39, 44]))
           (.seq (.reg Tryd.fn10_r14)
           (.trim [4, 6, 8, 22, 23, 24, 28, 29, 30])))))
         (.seq (.reg Tryd.fn10_r15)
         (.trim [4, 6, 8, 22, 23, 24, 28, 29, 30])))))
def Tryd.fn10_l1 : ACode :=
 (.seq (.seq (.reg Tryd.fn10_r8)
     (.trim [4, 6, 22, 23, 24, 25]))
    (.seq (.cond (.t 25)
      .skip
      (.exit 0))
    (.seq (.block 1
      (.seq (.seq (.reg Tryd.fn10_r9)
       (.trim [4, 6, 8, 22, 23, 24]))
      (.seq (.seq (.seq (.reg Tryd.fn10_r10)
        (.trim [4, 6, 8, 22, 23, 24, 28, 29, 30]))
       (.block 2
        (.loop (some [4, 6, 8, 22, 23, 24, 28, 29, 30])
         Tryd.fn10_l0)))
      (.seq (.reg Tryd.fn10_r16)
      (.trim [4, 6, 22, 23, 24])))))
    (.seq (.reg Tryd.fn10_r17)
    (.trim [4, 6, 22, 23, 24])))))
def Tryd.fn10 : AFun :=
 ⟨50, [.tmp 2, .tmp 3],
 (.seq (.seq (.reg Tryd.fn10_r0)
  (.trim [0]))
 (.seq (.seq (.reg Tryd.fn10_r1)
  (.trim [0, 4, 5]))
 (.seq (.seq (.seq (.reg Tryd.fn10_r2)
   (.trim [0, 4, 17]))
  (.cond (.t 17)
   (.seq (.seq (.reg Tryd.fn10_r3)
    (.trim [2, 3]))
   .ret)
   .skip))
 (.seq (.seq (.seq (.reg Tryd.fn10_r4)
   (.trim [0, 4, 21]))
  (.cond (.t 21)
   (.seq (.seq (.reg Tryd.fn10_r5)
    (.trim [2, 3]))
   .ret)
   .skip))
 (.seq (.seq (.reg Tryd.fn10_r6)
  (.trim [0, 4, 6]))
 (.seq (.seq (.seq (.reg Tryd.fn10_r7)
   (.trim [4, 6, 22, 23, 24]))
  (.block 0
   (.loop (some [4, 6, 22, 23, 24])
    Tryd.fn10_l1)))
 (.seq (.seq (.reg Tryd.fn10_r18)
  (.trim [2, 3]))
 .ret))))))), false, .none⟩
/-! signalbench/signalbenchref56.Table -/
def Tryd.fn11_r0 : List AIns :=
   [⟨(some 2), .mov (.c (.str [])), .none⟩,
    ⟨(some 3), .mov (.c (.int .i64 0)), .none⟩]
def Tryd.fn11_r1 : List AIns :=
   [⟨(some 4), .mov (.c (.int .i64 0)), .none⟩]
def Tryd.fn11_r2 : List AIns :=
   [⟨(some 10), .mov (.t 4), .none⟩,
        ⟨(some 11), .mov (.t 0), .none⟩,
        ⟨(some 12), .lenl (.t 11), .none⟩,
        ⟨(some 13), .bin .lss (.t 10) (.t 12), .none⟩]
def Tryd.fn11_r3b : List DIns :=
   ⟨⟨(some 28), .mov (.t 0), (some (22, false))⟩, [6, 5, 4, 3, 2, 0, 1], [13, 14, 15, 16, 17], 0⟩ ::
   ⟨⟨(some 29), .ia 1 (.t 28) (.c (.int .i64 0)), (some (22, false))⟩, [12, 6, 5, 4, 3, 2, 0, 1], [14, 15, 16, 17], 0⟩ ::
   ⟨⟨(some 30), .ld1 (.t 29), (some (22, false))⟩, [13, 6, 12, 5, 4, 3, 2, 0, 1], [15, 16, 17], 1⟩ ::
   ⟨⟨(some 31), .lenl (.t 30), (some (22, false))⟩, [14, 6, 13, 12, 5, 4, 3, 2, 0, 1], [16, 17], 0⟩ ::
   ⟨⟨(some 32), .bin .neq (.t 27) (.t 31), (some (22, false))⟩, [11, 15, 6, 10, 9, 7, 8, 5, 4, 3, 2, 0, 1, 14, 13, 12], [17], 0⟩ ::
   ⟨⟨(some 33), .pick (.t 22) (.c (.bool true)) (.t 32), .none⟩, [6, 16, 5, 4, 3, 2, 0, 1, 11, 15, 10, 9, 7, 8, 14, 13, 12], [], 0⟩ ::
   []
def Tryd.fn11_r3a : List DIns :=
   ⟨⟨(some 22), .mov (.t 21), .none⟩, [5, 4, 3, 2, 0, 1], [7, 8, 9, 10, 11, 12, 13, 14, 15, 16, 17], 0⟩ ::
   ⟨⟨(some 23), .mov (.t 0), (some (22, false))⟩, [6, 5, 4, 3, 2, 0, 1], [9, 10, 11, 16, 17], 0⟩ ::
   ⟨⟨(some 24), .mov (.t 4), (some (22, false))⟩, [6, 5, 4, 3, 2, 0, 1], [9, 10, 11, 16, 17], 0⟩ ::
   ⟨⟨(some 25), .ia 1 (.t 23) (.t 24), (some (22, false))⟩, [7, 8, 6, 5, 4, 3, 2, 0, 1], [10, 11, 16, 17], 0⟩ ::
   ⟨⟨(some 26), .ld1 (.t 25), (some (22, false))⟩, [9, 6, 7, 8, 5, 4, 3, 2, 0, 1], [11, 16, 17], 1⟩ ::
   ⟨⟨(some 27), .lenl (.t 26), (some (22, false))⟩, [10, 6, 9, 7, 8, 5, 4, 3, 2, 0, 1], [16, 17], 0⟩ ::
   Tryd.fn11_r3b
def Tryd.fn11_r3 : List DIns :=
   ⟨⟨(some 16), .mov (.t 0), .none⟩, [], [2, 3, 4, 5, 6, 7, 8, 9, 10, 11, 12, 13, 14, 15, 16, 17], 0⟩ ::
   ⟨⟨(some 17), .mov (.t 4), .none⟩, [], [2, 3, 4, 5, 6, 7, 8, 9, 10, 11, 12, 13, 14, 15, 16, 17], 0⟩ ::
   ⟨⟨(some 18), .ia 1 (.t 16) (.t 17), .none⟩, [0, 1], [3, 4, 5, 6, 7, 8, 9, 10, 11, 12, 13, 14, 15, 16, 17], 0⟩ ::
   ⟨⟨(some 19), .ld1 (.t 18), .none⟩, [2, 0, 1], [4, 5, 6, 7, 8, 9, 10, 11, 12, 13, 14, 15, 16, 17], 2⟩ ::
   ⟨⟨(some 20), .lenl (.t 19), .none⟩, [3, 2, 0, 1], [5, 6, 7, 8, 9, 10, 11, 12, 13, 14, 15, 16, 17], 0⟩ ::
   ⟨⟨(some 21), .bin .eql (.t 20) (.c (.int .i64 0)), .none⟩, [4, 3, 2, 0, 1], [6, 7, 8, 9, 10, 11, 12, 13, 14, 15, 16, 17], 0⟩ ::
   Tryd.fn11_r3a
def Tryd.fn11_r4 : List AIns :=
   [⟨(some 2), .mov (.c (.str [])), .none⟩,
           ⟨(some 3), .mov (.c (.int .i64 1)), .none⟩]
def Tryd.fn11_r5 : List AIns :=
   [⟨(some 5), .mov (.c (.int .i64 0)), .none⟩]
def Tryd.fn11_r6 : List AIns :=
   [⟨(some 34), .mov (.t 5), .none⟩,
            ⟨(some 35), .mov (.t 0), .none⟩,
            ⟨(some 36), .mov (.t 4), .none⟩,
            ⟨(some 37), .ia 1 (.t 35) (.t 36), .none⟩,
            ⟨(some 38), .ld1 (.t 37), .none⟩,
            ⟨(some 39), .lenl (.t 38), .none⟩,
            ⟨(some 40), .bin .lss (.t 34) (.t 39), .none⟩]
def Tryd.fn11_r7 : List AIns :=
   [⟨(some 43), .mov (.t 0), .none⟩,
             ⟨(some 44), .mov (.t 4), .none⟩,
             ⟨(some 45), .ia 1 (.t 43) (.t 44), .none⟩,
             ⟨(some 46), .ld1 (.t 45), .none⟩,
             ⟨(some 47), .mov (.t 5), .none⟩,
             ⟨(some 48), .ia 1 (.t 46) (.t 47), .none⟩,
             ⟨(some 49), .ld1 (.t 48), .none⟩,
             ⟨(some 50), .call 25 [(.t 49)], .none⟩,
             ⟨(some 51), .un .not (.t 50), .none⟩]
def Tryd.fn11_r8 : List AIns :=
   [⟨(some 2), .mov (.c (.str [])), .none⟩,
              ⟨(some 3), .mov (.c (.int .i64 1)), .none⟩]
def Tryd.fn11_r9 : List AIns :=
   [⟨(some 41), .mov (.t 5), .none⟩,
          ⟨(some 42), .bin .add (.t 41) (.c (.int .i64 1)), .none⟩,
          ⟨(some 5), .mov (.t 42), .none⟩]
def Tryd.fn11_r10 : List AIns :=
   [⟨(some 14), .mov (.t 4), .none⟩,
      ⟨(some 15), .bin .add (.t 14) (.c (.int .i64 1)), .none⟩,
      ⟨(some 4), .mov (.t 15), .none⟩]
def Tryd.fn11_r11 : List AIns :=
   [⟨(some 52), .mov (.t 0), .none⟩,
     ⟨(some 53), .lenl (.t 52), .none⟩,
     ⟨(some 54), .bin .eql (.t 53) (.c (.int .i64 0)), .none⟩]
def Tryd.fn11_r12 : List AIns :=
   [⟨(some 2), .mov (.c (.str [])), .none⟩,
      ⟨(some 3), .mov (.c (.int .i64 0)), .none⟩]
def Tryd.fn11_r13 : List AIns :=
   [⟨(some 55), .mov (.t 0), .none⟩,
    ⟨(some 56), .call 26 [(.t 55)], .none⟩,
    ⟨(some 6), .mov (.t 56), .none⟩]
def Tryd.fn11_r14 : List AIns :=
   [⟨(some 57), .bsl 5 1 0 [(.int .u8 0)] [], .none⟩,
    ⟨(some 7), .mov (.t 57), .none⟩]
def Tryd.fn11_r15 : List AIns :=
   [⟨(some 8), .mov (.c (.int .i64 0)), .none⟩]
def Tryd.fn11_r16 : List AIns :=
   [⟨(some 58), .mov (.t 8), .none⟩,
        ⟨(some 59), .mov (.t 0), .none⟩,
        ⟨(some 60), .lenl (.t 59), .none⟩,
        ⟨(some 61), .bin .lss (.t 58) (.t 60), .none⟩]
def Tryd.fn11_r17 : List AIns :=
   [⟨(some 9), .mov (.c (.int .i64 0)), .none⟩]
def Tryd.fn11_r18 : List AIns :=
   [⟨(some 64), .mov (.t 9), .none⟩,
             ⟨(some 65), .mov (.t 6), .none⟩,
             ⟨(some 66), .lenl (.t 65), .none⟩,
             ⟨(some 67), .bin .lss (.t 64) (.t 66), .none⟩]
def Tryd.fn11_r19 : List AIns :=
   [⟨(some 70), .mov (.t 7), .none⟩,
              ⟨(some 71), .mov (.t 0), .none⟩,
              ⟨(some 72), .mov (.t 8), .none⟩,
              ⟨(some 73), .ia 1 (.t 71) (.t 72), .none⟩,
              ⟨(some 74), .ld1 (.t 73), .none⟩,
              ⟨(some 75), .mov (.t 9), .none⟩,
              ⟨(some 76), .ia 1 (.t 74) (.t 75), .none⟩,
              ⟨(some 77), .ld1 (.t 76), .none⟩,
              ⟨(some 78), .app 5 1 1 (.t 70) (.t 77), .none⟩,
              ⟨(some 7), .mov (.t 78), .none⟩]
def Tryd.fn11_r20 : List AIns :=
   [⟨(some 79), .mov (.t 9), .none⟩,
               ⟨(some 80), .mov (.t 6), .none⟩,
               ⟨(some 81), .lenl (.t 80), .none⟩,
               ⟨(some 82), .bin .sub (.t 81) (.c (.int .i64 1)), .none⟩,
               ⟨(some 83), .bin .lss (.t 79) (.t 82), .none⟩]
def Tryd.fn11_r21b : List DIns :=
   ⟨⟨(some 96), .lens (.t 95), .none⟩, [11, 10, 8, 9, 7, 5, 6], [13, 14, 15, 16, 17], 0⟩ ::
   ⟨⟨(some 97), .bin .sub (.t 88) (.t 96), .none⟩, [4, 12, 3, 1, 2, 11, 10, 8, 9, 7, 5, 6], [14, 15, 16, 17], 0⟩ ::
   ⟨⟨(some 98), .bin .add (.t 97) (.c (.int .i64 2)), .none⟩, [13, 4, 12, 3, 1, 2, 11, 10, 8, 9, 7, 5, 6], [15, 16, 17], 0⟩ ::
   ⟨⟨(some 99), .call 27 [(.t 98)], .none⟩, [14, 13, 4, 12, 3, 1, 2, 11, 10, 8, 9, 7, 5, 6], [16, 17], 2⟩ ::
   ⟨⟨(some 100), .app 5 1 1 (.t 84) (.t 99), .none⟩, [0, 15, 14, 13, 4, 12, 3, 1, 2, 11, 10, 8, 9, 7, 5, 6], [17], 2⟩ ::
   ⟨⟨(some 7), .mov (.t 100), .none⟩, [16, 0, 1, 2, 3, 4, 5, 6, 7, 8, 9, 10, 11, 12, 13, 14, 15], [], 0⟩ ::
   []
def Tryd.fn11_r21a : List DIns :=
   ⟨⟨(some 90), .mov (.t 8), .none⟩, [], [7, 8, 10, 11, 12, 13, 14, 15, 16, 17], 0⟩ ::
   ⟨⟨(some 91), .ia 1 (.t 89) (.t 90), .none⟩, [5, 6], [8, 10, 11, 12, 13, 14, 15, 16, 17], 0⟩ ::
   ⟨⟨(some 92), .ld1 (.t 91), .none⟩, [7, 5, 6], [10, 11, 12, 13, 14, 15, 16, 17], 1⟩ ::
   ⟨⟨(some 93), .mov (.t 9), .none⟩, [], [10, 11, 12, 13, 14, 15, 16, 17], 0⟩ ::
   ⟨⟨(some 94), .ia 1 (.t 92) (.t 93), .none⟩, [8, 9, 7, 5, 6], [11, 12, 13, 14, 15, 16, 17], 0⟩ ::
   ⟨⟨(some 95), .ld1 (.t 94), .none⟩, [10, 8, 9, 7, 5, 6], [12, 13, 14, 15, 16, 17], 1⟩ ::
   Tryd.fn11_r21b
def Tryd.fn11_r21 : List DIns :=
   ⟨⟨(some 84), .mov (.t 7), .none⟩, [], [16, 17], 0⟩ ::
   ⟨⟨(some 85), .mov (.t 6), .none⟩, [], [3, 4, 13, 14, 15, 16, 17], 0⟩ ::
   ⟨⟨(some 86), .mov (.t 9), .none⟩, [], [3, 4, 13, 14, 15, 16, 17], 0⟩ ::
   ⟨⟨(some 87), .ia 1 (.t 85) (.t 86), .none⟩, [1, 2], [4, 13, 14, 15, 16, 17], 0⟩ ::
   ⟨⟨(some 88), .ld1 (.t 87), .none⟩, [3, 1, 2], [13, 14, 15, 16, 17], 1⟩ ::
   ⟨⟨(some 89), .mov (.t 0), .none⟩, [], [7, 8, 10, 11, 12, 13, 14, 15, 16, 17], 0⟩ ::
   Tryd.fn11_r21a
def Tryd.fn11_r22 : List AIns :=
   [⟨(some 101), .mov (.t 7), .none⟩,
              ⟨(some 102), .lenl (.t 101), .none⟩,
              ⟨(some 103), .bin .geq (.t 102) (.c (.int .i64 1048576)), .none⟩]
def Tryd.fn11_r23 : List AIns :=
   [⟨(some 2), .mov (.c (.str [])), .none⟩,
               ⟨(some 3), .mov (.c (.int .i64 6)), .none⟩]
def Tryd.fn11_r24 : List AIns :=
   [⟨(some 68), .mov (.t 9), .none⟩,
           ⟨(some 69), .bin .add (.t 68) (.c (.int .i64 1)), .none⟩,
           ⟨(some 9), .mov (.t 69), .none⟩]
def Tryd.fn11_r25 : List AIns :=
   [⟨(some 104), .mov (.t 7), .none⟩,
        ⟨(some 105), .bsl 5 1 1 [(.int .u8 0)] [(0, 1, (.c (.int .u8 10)))], .none⟩,
        ⟨(some 106), .app 5 1 1 (.t 104) (.t 105), .none⟩,
        ⟨(some 7), .mov (.t 106), .none⟩]
def Tryd.fn11_r26 : List AIns :=
   [⟨(some 62), .mov (.t 8), .none⟩,
      ⟨(some 63), .bin .add (.t 62) (.c (.int .i64 1)), .none⟩,
      ⟨(some 8), .mov (.t 63), .none⟩]
def Tryd.fn11_r27 : List AIns :=
   [⟨(some 107), .mov (.t 7), .none⟩,
    ⟨(some 108), .b2s (.t 107), .none⟩,
    ⟨(some 2), .mov (.t 108), .none⟩,
    ⟨(some 3), .mov (.c (.int .i64 0)), .none⟩]
def Tryd.fn11_l0 : ACode :=
 (.seq (.seq (.seq (.reg Tryd.fn11_r18)
           (.trim [0, 6, 7, 8, 9, 67]))
          (.cond (.t 67)
           .skip
           (.exit 6)))
         (.seq (.block 7
           (.seq (.seq (.reg Tryd.fn11_r19)
            (.trim [0, 6, 7, 8, 9]))
           (.seq (.seq (.seq (.reg Tryd.fn11_r20)
             (.trim [0, 6, 7, 8, 9, 83]))
            (.cond (.t 83)
             (.seq (.regd Tryd.fn11_r21)
             (.trim [0, 6, 7, 8, 9]))
             .skip))
           (.seq (.seq (.reg Tryd.fn11_r22)
            (.trim [0, 6, 7, 8, 9, 103]))
           (.cond (.t 103)
            (.seq (.seq (.reg Tryd.fn11_r23)
             (.trim [2, 3]))
            .ret)
            .skip)))))
         (.seq (.reg Tryd.fn11_r24)
         (.trim [0, 6, 7, 8, 9]))))
def Tryd.fn11_l1 : ACode :=
 (.seq (.seq (.seq (.reg Tryd.fn11_r16)
      (.trim [0, 6, 7, 8, 61]))
     (.cond (.t 61)
      .skip
      (.exit 4)))
    (.seq (.block 5
      (.seq (.seq (.seq (.reg Tryd.fn11_r17)
        (.trim [0, 6, 7, 8, 9]))
       (.block 6
        (.loop (some [0, 6, 7, 8, 9])
         Tryd.fn11_l0)))
      (.seq (.reg Tryd.fn11_r25)
      (.trim [0, 6, 7, 8]))))
    (.seq (.reg Tryd.fn11_r26)
    (.trim [0, 6, 7, 8]))))
def Tryd.fn11_l2 : ACode :=
 (.seq (.seq (.seq (.reg Tryd.fn11_r6)
          (.trim [0, 4, 5, 40]))
         (.cond (.t 40)
          .skip
          (.exit 2)))
        (.seq (.block 3
          (.seq (.seq (.reg Tryd.fn11_r7)
           (.trim [0, 4, 5, 51]))
          (.cond (.t 51)
           (.seq (.seq (.reg Tryd.fn11_r8)
            (.trim [2, 3]))
           .ret)
           .skip)))
        (.seq (.reg Tryd.fn11_r9)
        (.trim [0, 4, 5]))))
def Tryd.fn11_l3 : ACode :=
 (.seq (.seq (.seq (.reg Tryd.fn11_r2)
      (.trim [0, 4, 13]))
     (.cond (.t 13)
      .skip
      (.exit 0)))
    (.seq (.block 1
      (.seq (.seq (.seq (.regd Tryd.fn11_r3)
        (.trim [0, 4, 33]))
       (.cond (.t 33)
        (.seq (.seq (.reg Tryd.fn11_r4)
         (.trim [2, 3]))
        .ret)
        .skip))
      (.seq (.seq (.reg Tryd.fn11_r5)
       (.trim [0, 4, 5]))
      (.block 2
       (.loop (some [0, 4, 5])
        Tryd.fn11_l2)))))
    (.seq (.reg Tryd.fn11_r10)
    (.trim [0, 4]))))
def Tryd.fn11 : AFun :=
 ⟨109, [.tmp 2, .tmp 3],
 (.seq (.seq (.reg Tryd.fn11_r0)
  (.trim [0]))
 (.seq (.seq (.seq (.reg Tryd.fn11_r1)
   (.trim [0, 4]))
  (.block 0
   (.loop (some [0, 4])
    Tryd.fn11_l3)))
 (.seq (.seq (.seq (.reg Tryd.fn11_r11)
   (.trim [0, 54]))
  (.cond (.t 54)
   (.seq (.seq (.reg Tryd.fn11_r12)
    (.trim [2, 3]))
   .ret)
   .skip))
 (.seq (.seq (.reg Tryd.fn11_r13)
  (.trim [0, 6]))
 (.seq (.seq (.reg Tryd.fn11_r14)
  (.trim [0, 6, 7]))
 (.seq (.seq (.seq (.reg Tryd.fn11_r15)
   (.trim [0, 6, 7, 8]))
  (.block 4
   (.loop (some [0, 6, 7, 8])
    Tryd.fn11_l1)))
 (.seq (.seq (.reg Tryd.fn11_r27)
  (.trim [2, 3]))
 .ret))))))), false, .none⟩
/-! signalbench/signalbenchlaw56.short -/
def Tryd.fn12_r0 : List AIns :=
   [⟨(some 2), .mov (.c (.bool false)), .none⟩]
def Tryd.fn12_r1 : List AIns :=
   [⟨(some 5), .mov (.t 0), .none⟩,
     ⟨(some 6), .lenl (.t 5), .none⟩,
     ⟨(some 7), .bin .gtr (.t 6) (.c (.int .i64 300)), .none⟩]
def Tryd.fn12_r2 : List AIns :=
   [⟨(some 2), .mov (.c (.bool false)), .none⟩]
def Tryd.fn12_r3 : List AIns :=
   [⟨(some 3), .mov (.c (.int .i64 0)), .none⟩]
def Tryd.fn12_r4 : List AIns :=
   [⟨(some 4), .mov (.c (.int .i64 0)), .none⟩]
def Tryd.fn12_r5 : List AIns :=
   [⟨(some 8), .mov (.t 4), .none⟩,
        ⟨(some 9), .mov (.t 0), .none⟩,
        ⟨(some 10), .lenl (.t 9), .none⟩,
        ⟨(some 11), .bin .lss (.t 8) (.t 10), .none⟩]
def Tryd.fn12_r6 : List AIns :=
   [⟨(some 14), .mov (.t 0), .none⟩,
          ⟨(some 15), .mov (.t 4), .none⟩,
          ⟨(some 16), .ia 9 (.t 14) (.t 15), .none⟩,
          ⟨(some 17), .fa 2 (.t 16), .none⟩,
          ⟨(some 18), .fa 5 (.t 17), .none⟩,
          ⟨(some 19), .ld1 (.t 18), .none⟩,
          ⟨(some 20), .lens (.t 19), .none⟩,
          ⟨(some 21), .bin .gtr (.t 20) (.c (.int .i64 5000)), .none⟩]
def Tryd.fn12_r7 : List AIns :=
   [⟨(some 2), .mov (.c (.bool false)), .none⟩]
def Tryd.fn12_r8 : List AIns :=
   [⟨(some 22), .mov (.t 3), .none⟩,
        ⟨(some 23), .mov (.t 0), .none⟩,
        ⟨(some 24), .mov (.t 4), .none⟩,
        ⟨(some 25), .ia 9 (.t 23) (.t 24), .none⟩,
        ⟨(some 26), .fa 2 (.t 25), .none⟩,
        ⟨(some 27), .fa 5 (.t 26), .none⟩,
        ⟨(some 28), .ld1 (.t 27), .none⟩,
        ⟨(some 29), .lens (.t 28), .none⟩,
        ⟨(some 30), .bin .add (.t 22) (.t 29), .none⟩,
        ⟨(some 3), .mov (.t 30), .none⟩]
def Tryd.fn12_r9 : List AIns :=
   [⟨(some 12), .mov (.t 4), .none⟩,
      ⟨(some 13), .bin .add (.t 12) (.c (.int .i64 1)), .none⟩,
      ⟨(some 4), .mov (.t 13), .none⟩]
def Tryd.fn12_r10 : List AIns :=
   [⟨(some 31), .mov (.t 3), .none⟩,
    ⟨(some 32), .bin .leq (.t 31) (.c (.int .i64 50000)), .none⟩,
    ⟨(some 2), .mov (.t 32), .none⟩]
def Tryd.fn12_l0 : ACode :=
 (.seq (.seq (.seq (.reg Tryd.fn12_r5)
      (.trim [0, 3, 4, 11]))
     (.cond (.t 11)
      .skip
      (.exit 0)))
    (.seq (.block 1
      (.seq (.seq (.seq (.reg Tryd.fn12_r6)
        (.trim [0, 3, 4, 21]))
       (.cond (.t 21)
        (.seq (.seq (.reg Tryd.fn12_r7)
         (.trim [2]))
        .ret)
        .skip))
      (.seq (.reg Tryd.fn12_r8)
      (.trim [0, 3, 4]))))
    (.seq (.reg Tryd.fn12_r9)
    (.trim [0, 3, 4]))))
def Tryd.fn12 : AFun :=
 ⟨33, [.tmp 2],
 (.seq (.seq (.reg Tryd.fn12_r0)
  (.trim [0]))
 (.seq (.seq (.seq (.reg Tryd.fn12_r1)
   (.trim [0, 7]))
  (.cond (.t 7)
   (.seq (.seq (.reg Tryd.fn12_r2)
    (.trim [2]))
   .ret)
   .skip))
 (.seq (.seq (.reg Tryd.fn12_r3)
  (.trim [0, 3]))
 (.seq (.seq (.seq (.reg Tryd.fn12_r4)
   (.trim [0, 3, 4]))
  (.block 0
   (.loop (some [0, 3, 4])
    Tryd.fn12_l0)))
 (.seq (.seq (.reg Tryd.fn12_r10)
  (.trim [2]))
 .ret))))), true, .none⟩
/-! signalbench/report.Export -/
def Tryd.fn13_r0 : List AIns :=
   [⟨(some 2), .mov (.c (.str [])), .none⟩,
    ⟨(some 3), .mov (.c (.int .i64 0)), .none⟩]
def Tryd.fn13_r1 : List AIns :=
   [⟨(some 11), .mov (.t 0), .none⟩,
     ⟨(some 12), .lenl (.t 11), .none⟩,
     ⟨(some 13), .mov (.c (.int .i64 0)), .none⟩]
def Tryd.fn13_r2 : List AIns :=
   [⟨(some 14), .bin .lss (.t 13) (.t 12), .none⟩]
def Tryd.fn13_r3 : List AIns :=
   [⟨(some 15), .ia 9 (.t 11) (.t 13), .none⟩,
         ⟨(some 16), .ldn 9 (.t 15), .none⟩,
         ⟨(some 5), .alloc 40 [(.int .i64 0), (.int .i64 0), (.int .i64 0), (.int .i64 0), (.int .i64 0), (.int .i64 0), (.int .i64 0), (.str []), (.int .i64 0)], .none⟩,
         ⟨.none, .st 9 (.t 5) (.t 16), .none⟩]
def Tryd.fn13_r4 : List AIns :=
   [⟨(some 17), .ldn 9 (.t 5), .none⟩,
         ⟨(some 18), .call 28 [(.t 17)], .none⟩,
         ⟨(some 19), .un .not (.t 18), .none⟩]
def Tryd.fn13_r5 : List AIns :=
   [⟨(some 2), .mov (.c (.str [])), .none⟩,
          ⟨(some 3), .mov (.c (.int .i64 1)), .none⟩]
def Tryd.fn13_r6 : List AIns :=
   [⟨(some 20), .bin .add (.t 13) (.c (.int .i64 1)), .none⟩,
      ⟨(some 13), .mov (.t 20), .none⟩]
def Tryd.fn13_r7 : List AIns :=
   [⟨(some 6), .alloc 51 [.nilp, .nils], .none⟩]
def Tryd.fn13_r8 : List AIns :=
   [⟨(some 21), .mov (.t 0), .none⟩,
     ⟨(some 22), .lenl (.t 21), .none⟩,
     ⟨(some 23), .mov (.c (.int .i64 0)), .none⟩]
def Tryd.fn13_r9 : List AIns :=
   [⟨(some 24), .bin .lss (.t 23) (.t 22), .none⟩]
def Tryd.fn13_r10 : List AIns :=
   [⟨(some 25), .ia 9 (.t 21) (.t 23), .none⟩,
         ⟨(some 26), .ldn 9 (.t 25), .none⟩,
         ⟨(some 8), .alloc 40 [(.int .i64 0), (.int .i64 0), (.int .i64 0), (.int .i64 0), (.int .i64 0), (.int .i64 0), (.int .i64 0), (.str []), (.int .i64 0)], .none⟩,
         ⟨.none, .st 9 (.t 8) (.t 26), .none⟩]
def Tryd.fn13_r11 : List AIns :=
   [⟨(some 28), .fa 2 (.t 8), .none⟩,
         ⟨(some 29), .ldn 7 (.t 28), .none⟩,
         ⟨(some 30), .call 29 [(.t 29)], .none⟩,
         ⟨(some 27), .mov (.t 30), .none⟩,
         ⟨(some 31), .ext 0 (.t 27), .none⟩,
         ⟨(some 32), .ext 1 (.t 27), .none⟩,
         ⟨(some 9), .mov (.t 31), .none⟩,
         ⟨(some 10), .mov (.t 32), .none⟩]
def Tryd.fn13_r12b : List DIns :=
   ⟨⟨(some 45), .call 30 [(.t 6), (.t 44)], .none⟩, [11, 6, 10, 8, 9, 7, 3, 2, 1, 0, 5, 4], [], 2⟩ ::
   []
def Tryd.fn13_r12a : List DIns :=
   ⟨⟨(some 39), .call 31 [(.t 38)], .none⟩, [5, 2, 4, 1, 0], [7, 8, 10, 11, 12], 2⟩ ::
   ⟨⟨(some 40), .bin .add (.t 36) (.t 39), .none⟩, [3, 6, 2, 1, 0, 5, 4], [8, 10, 11, 12], 0⟩ ::
   ⟨⟨(some 41), .bin .add (.t 40) (.c (.str [32])), .none⟩, [7, 3, 6, 2, 1, 0, 5, 4], [10, 11, 12], 0⟩ ::
   ⟨⟨(some 42), .mov (.t 9), .none⟩, [], [10, 11, 12], 0⟩ ::
   ⟨⟨(some 43), .bin .add (.t 41) (.t 42), .none⟩, [8, 9, 7, 3, 6, 2, 1, 0, 5, 4], [11, 12], 0⟩ ::
   ⟨⟨(some 44), .bin .add (.t 43) (.c (.str [10])), .none⟩, [10, 8, 9, 7, 3, 6, 2, 1, 0, 5, 4], [12], 0⟩ ::
   Tryd.fn13_r12b
def Tryd.fn13_r12 : List DIns :=
   ⟨⟨(some 33), .fa 0 (.t 8), .none⟩, [], [1, 2, 3, 6, 7, 8, 10, 11, 12], 0⟩ ::
   ⟨⟨(some 34), .ld1 (.t 33), .none⟩, [0], [2, 3, 6, 7, 8, 10, 11, 12], 1⟩ ::
   ⟨⟨(some 35), .call 31 [(.t 34)], .none⟩, [1, 0], [3, 6, 7, 8, 10, 11, 12], 1⟩ ::
   ⟨⟨(some 36), .bin .add (.t 35) (.c (.str [32])), .none⟩, [2, 1, 0], [7, 8, 10, 11, 12], 0⟩ ::
   ⟨⟨(some 37), .fa 1 (.t 8), .none⟩, [], [5, 6, 7, 8, 10, 11, 12], 0⟩ ::
   ⟨⟨(some 38), .ld1 (.t 37), .none⟩, [4], [6, 7, 8, 10, 11, 12], 1⟩ ::
   Tryd.fn13_r12a
def Tryd.fn13_r13 : List AIns :=
   [⟨(some 46), .call 32 [(.t 6)], .none⟩,
         ⟨(some 47), .bin .gtr (.t 46) (.c (.int .i64 1048576)), .none⟩]
def Tryd.fn13_r14 : List AIns :=
   [⟨(some 2), .mov (.c (.str [])), .none⟩,
          ⟨(some 3), .mov (.c (.int .i64 6)), .none⟩]
def Tryd.fn13_r15 : List AIns :=
   [⟨(some 48), .bin .add (.t 23) (.c (.int .i64 1)), .none⟩,
      ⟨(some 23), .mov (.t 48), .none⟩]
def Tryd.fn13_r16 : List AIns :=
   [⟨(some 49), .call 24 [(.t 6)], .none⟩,
    ⟨(some 2), .mov (.t 49), .none⟩,
    ⟨(some 3), .mov (.c (.int .i64 0)), .none⟩]
def Tryd.fn13_l0 : ACode :=
 (.seq (.seq (.reg Tryd.fn13_r9)
     (.trim [6, 21, 22, 23, 24]))
    (.seq (.cond (.t 24)
      .skip
      (.exit 2))
    (.seq (.block 3
      (.seq (.seq (.reg Tryd.fn13_r10)
       (.trim [6, 8, 21, 22, 23]))
      (.seq (.seq (.reg Tryd.fn13_r11)
       (.trim [6, 8, 9, 21, 22, 23]))
      (.seq (.seq (.regd Tryd.fn13_r12)
       (.trim [6, 21, 22, 23]))
      (.seq (.seq (.reg Tryd.fn13_r13)
       (.trim [6, 21, 22, 23, 47]))
      (.cond (.t 47)
       (.seq (.seq (.reg Tryd.fn13_r14)
        (.trim [2, 3]))
       .ret)
       .skip))))))
    (.seq (.reg Tryd.fn13_r15)
    (.trim [6, 21, 22, 23])))))
def Tryd.fn13_l1 : ACode :=
 (.seq (.seq (.reg Tryd.fn13_r2)
     (.trim [0, 11, 12, 13, 14]))
    (.seq (.cond (.t 14)
      .skip
      (.exit 0))
    (.seq (.block 1
      (.seq (.seq (.reg Tryd.fn13_r3)
       (.trim [0, 5, 11, 12, 13]))
      (.seq (.seq (.reg Tryd.fn13_r4)
       (.trim [0, 11, 12, 13, 19]))
      (.cond (.t 19)
       (.seq (.seq (.reg Tryd.fn13_r5)
        (.trim [2, 3]))
       .ret)
       .skip))))
    (.seq (.reg Tryd.fn13_r6)
    (.trim [0, 11, 12, 13])))))
def Tryd.fn13 : AFun :=
 ⟨50, [.tmp 2, .tmp 3],
 (.seq (.seq (.reg Tryd.fn13_r0)
  (.trim [0]))
 (.seq (.seq (.seq (.reg Tryd.fn13_r1)
   (.trim [0, 11, 12, 13]))
  (.block 0
   (.loop (some [0, 11, 12, 13])
    Tryd.fn13_l1)))
 (.seq (.seq (.reg Tryd.fn13_r7)
  (.trim [0, 6]))
 (.seq (.seq (.seq (.reg Tryd.fn13_r8)
   (.trim [6, 21, 22, 23]))
  (.block 2
   (.loop (some [6, 21, 22, 23])
    Tryd.fn13_l0)))
 (.seq (.seq (.reg Tryd.fn13_r16)
  (.trim [2, 3]))
 .ret))))), true, .none⟩
/-! signalbench/signalbenchref56.Export -/
def Tryd.fn14_r0 : List AIns :=
   [⟨(some 2), .mov (.c (.str [])), .none⟩,
    ⟨(some 3), .mov (.c (.int .i64 0)), .none⟩]
def Tryd.fn14_r1 : List AIns :=
   [⟨(some 4), .mov (.c (.int .i64 0)), .none⟩]
def Tryd.fn14_r2 : List AIns :=
   [⟨(some 7), .mov (.t 4), .none⟩,
        ⟨(some 8), .mov (.t 0), .none⟩,
        ⟨(some 9), .lenl (.t 8), .none⟩,
        ⟨(some 10), .bin .lss (.t 7) (.t 9), .none⟩]
def Tryd.fn14_r3 : List AIns :=
   [⟨(some 13), .mov (.t 0), .none⟩,
         ⟨(some 14), .mov (.t 4), .none⟩,
         ⟨(some 15), .ia 9 (.t 13) (.t 14), .none⟩,
         ⟨(some 16), .ldn 9 (.t 15), .none⟩,
         ⟨(some 17), .call 33 [(.t 16)], .none⟩,
         ⟨(some 18), .un .not (.t 17), .none⟩]
def Tryd.fn14_r4 : List AIns :=
   [⟨(some 2), .mov (.c (.str [])), .none⟩,
          ⟨(some 3), .mov (.c (.int .i64 1)), .none⟩]
def Tryd.fn14_r5 : List AIns :=
   [⟨(some 11), .mov (.t 4), .none⟩,
      ⟨(some 12), .bin .add (.t 11) (.c (.int .i64 1)), .none⟩,
      ⟨(some 4), .mov (.t 12), .none⟩]
def Tryd.fn14_r6 : List AIns :=
   [⟨(some 19), .bsl 5 1 0 [(.int .u8 0)] [], .none⟩,
    ⟨(some 5), .mov (.t 19), .none⟩]
def Tryd.fn14_r7 : List AIns :=
   [⟨(some 6), .mov (.c (.int .i64 0)), .none⟩]
def Tryd.fn14_r8 : List AIns :=
   [⟨(some 20), .mov (.t 6), .none⟩,
        ⟨(some 21), .mov (.t 0), .none⟩,
        ⟨(some 22), .lenl (.t 21), .none⟩,
        ⟨(some 23), .bin .lss (.t 20) (.t 22), .none⟩]
def Tryd.fn14_r9 : List AIns :=
   [⟨(some 26), .mov (.t 5), .none⟩,
         ⟨(some 27), .mov (.t 0), .none⟩,
         ⟨(some 28), .mov (.t 6), .none⟩,
         ⟨(some 29), .ia 9 (.t 27) (.t 28), .none⟩,
         ⟨(some 30), .ldn 9 (.t 29), .none⟩,
         ⟨(some 31), .call 34 [(.t 30)], .none⟩,
         ⟨(some 32), .app 5 1 1 (.t 26) (.t 31), .none⟩,
         ⟨(some 5), .mov (.t 32), .none⟩]
def Tryd.fn14_r10 : List AIns :=
   [⟨(some 33), .mov (.t 5), .none⟩,
         ⟨(some 34), .lenl (.t 33), .none⟩,
         ⟨(some 35), .bin .gtr (.t 34) (.c (.int .i64 1048576)), .none⟩]
def Tryd.fn14_r11 : List AIns :=
   [⟨(some 2), .mov (.c (.str [])), .none⟩,
          ⟨(some 3), .mov (.c (.int .i64 6)), .none⟩]
def Tryd.fn14_r12 : List AIns :=
   [⟨(some 24), .mov (.t 6), .none⟩,
      ⟨(some 25), .bin .add (.t 24) (.c (.int .i64 1)), .none⟩,
      ⟨(some 6), .mov (.t 25), .none⟩]
def Tryd.fn14_r13 : List AIns :=
   [⟨(some 36), .mov (.t 5), .none⟩,
    ⟨(some 37), .b2s (.t 36), .none⟩,
    ⟨(some 2), .mov (.t 37), .none⟩,
    ⟨(some 3), .mov (.c (.int .i64 0)), .none⟩]
def Tryd.fn14_l0 : ACode :=
 (.seq (.seq (.seq (.reg Tryd.fn14_r8)
      (.trim [0, 5, 6, 23]))
     (.cond (.t 23)
      .skip
      (.exit 2)))
    (.seq (.block 3
      (.seq (.seq (.reg Tryd.fn14_r9)
       (.trim [0, 5, 6]))
      (.seq (.seq (.reg Tryd.fn14_r10)
       (.trim [0, 5, 6, 35]))
      (.cond (.t 35)
       (.seq (.seq (.reg Tryd.fn14_r11)
        (.trim [2, 3]))
       .ret)
       .skip))))
    (.seq (.reg Tryd.fn14_r12)
    (.trim [0, 5, 6]))))
def Tryd.fn14_l1 : ACode :=
 (.seq (.seq (.seq (.reg Tryd.fn14_r2)
      (.trim [0, 4, 10]))
     (.cond (.t 10)
      .skip
      (.exit 0)))
    (.seq (.block 1
      (.seq (.seq (.reg Tryd.fn14_r3)
       (.trim [0, 4, 18]))
      (.cond (.t 18)
       (.seq (.seq (.reg Tryd.fn14_r4)
        (.trim [2, 3]))
       .ret)
       .skip)))
    (.seq (.reg Tryd.fn14_r5)
    (.trim [0, 4]))))
def Tryd.fn14 : AFun :=
 ⟨38, [.tmp 2, .tmp 3],
 (.seq (.seq (.reg Tryd.fn14_r0)
  (.trim [0]))
 (.seq (.seq (.seq (.reg Tryd.fn14_r1)
   (.trim [0, 4]))
  (.block 0
   (.loop (some [0, 4])
    Tryd.fn14_l1)))
 (.seq (.seq (.reg Tryd.fn14_r6)
  (.trim [0, 5]))
 (.seq (.seq (.seq (.reg Tryd.fn14_r7)
   (.trim [0, 5, 6]))
  (.block 2
   (.loop (some [0, 5, 6])
    Tryd.fn14_l0)))
 (.seq (.seq (.reg Tryd.fn14_r13)
  (.trim [2, 3]))
 .ret))))), true, .none⟩
/-! signalbench/report.Counts -/
def Tryd.fn15_r0 : List AIns :=
   [⟨(some 4), .mov (.c .nils), .none⟩]
def Tryd.fn15_r1 : List AIns :=
   [⟨(some 8), .mov (.t 1), .none⟩,
     ⟨(some 9), .bin .lss (.t 8) (.c (.int .i64 0)), .none⟩]
def Tryd.fn15_r2 : List AIns :=
   [⟨(some 4), .mov (.c .nils), .none⟩]
def Tryd.fn15_r3 : List AIns :=
   [⟨(some 10), .mov (.t 1), .none⟩,
    ⟨(some 11), .mn (.t 10) (.c (.int .i64 16)), .none⟩,
    ⟨(some 12), .mks 35 2 16 [(.int .i64 0), (.int .i64 0)] (.t 11) (.t 11), .none⟩,
    ⟨(some 5), .mov (.t 12), .none⟩]
def Tryd.fn15_r4 : List AIns :=
   [⟨(some 13), .mov (.t 0), .none⟩,
     ⟨(some 14), .lenl (.t 13), .none⟩,
     ⟨(some 15), .mov (.c (.int .i64 0)), .none⟩]
def Tryd.fn15_r5 : List AIns :=
   [⟨(some 16), .bin .lss (.t 15) (.t 14), .none⟩]
def Tryd.fn15_r6 : List AIns :=
   [⟨(some 17), .ia 9 (.t 13) (.t 15), .none⟩,
         ⟨(some 18), .ldn 9 (.t 17), .none⟩,
         ⟨(some 7), .alloc 40 [(.int .i64 0), (.int .i64 0), (.int .i64 0), (.int .i64 0), (.int .i64 0), (.int .i64 0), (.int .i64 0), (.str []), (.int .i64 0)], .none⟩,
         ⟨.none, .st 9 (.t 7) (.t 18), .none⟩]
def Tryd.fn15_r7 : List AIns :=
   [⟨(some 19), .fa 0 (.t 7), .none⟩,
          ⟨(some 20), .ld1 (.t 19), .none⟩,
          ⟨(some 21), .bin .lss (.t 20) (.c (.int .i64 0)), .none⟩,
          ⟨(some 22), .mov (.t 21), .none⟩,
          ⟨(some 23), .fa 0 (.t 7), (some (22, false))⟩,
          ⟨(some 24), .ld1 (.t 23), (some (22, false))⟩,
          ⟨(some 25), .mov (.t 5), (some (22, false))⟩,
          ⟨(some 26), .lenl (.t 25), (some (22, false))⟩,
          ⟨(some 27), .bin .geq (.t 24) (.t 26), (some (22, false))⟩,
          ⟨(some 28), .pick (.t 22) (.c (.bool true)) (.t 27), .none⟩]
def Tryd.fn15_r8a : List DIns :=
   ⟨⟨(some 35), .bin .add (.t 34) (.c (.int .i64 1)), .none⟩, [5, 4, 3, 0, 2, 1], [8, 9], 0⟩ ::
   ⟨⟨(some 36), .ia 2 (.t 29) (.t 31), .none⟩, [0, 2, 1], [8, 9], 0⟩ ::
   ⟨⟨(some 37), .iaa 2 1 (.t 36) (.c (.int .i64 0)), .none⟩, [7, 0, 1, 2, 3, 4, 5, 6], [9], 0⟩ ::
   ⟨⟨.none, .st 1 (.t 37) (.t 35), .none⟩, [8, 6, 0, 1, 2, 3, 4, 5, 7], [], 2⟩ ::
   []
def Tryd.fn15_r8 : List DIns :=
   ⟨⟨(some 29), .mov (.t 5), .none⟩, [], [3, 4, 5, 6, 7, 8, 9], 0⟩ ::
   ⟨⟨(some 30), .fa 0 (.t 7), .none⟩, [], [2, 3, 4, 5, 6, 7, 8, 9], 0⟩ ::
   ⟨⟨(some 31), .ld1 (.t 30), .none⟩, [1], [3, 4, 5, 6, 7, 8, 9], 2⟩ ::
   ⟨⟨(some 32), .ia 2 (.t 29) (.t 31), .none⟩, [0, 2, 1], [4, 5, 6, 8, 9], 0⟩ ::
   ⟨⟨(some 33), .iaa 2 1 (.t 32) (.c (.int .i64 0)), .none⟩, [3, 0, 2, 1], [5, 6, 8, 9], 0⟩ ::
   ⟨⟨(some 34), .ld1 (.t 33), .none⟩, [4, 3, 0, 2, 1], [6, 8, 9], 2⟩ ::
   Tryd.fn15_r8a
def Tryd.fn15_r9 : List AIns :=
   [⟨(some 38), .fa 2 (.t 7), .none⟩,
         ⟨(some 39), .fa 6 (.t 38), .none⟩,
         ⟨(some 40), .ld1 (.t 39), .none⟩,
         ⟨(some 41), .bin .neq (.t 40) (.c (.int .i64 0)), .none⟩]
def Tryd.fn15_r10a : List DIns :=
   ⟨⟨(some 48), .bin .add (.t 47) (.c (.int .i64 1)), .none⟩, [5, 4, 3, 0, 2, 1], [8, 9], 0⟩ ::
   ⟨⟨(some 49), .ia 2 (.t 42) (.t 44), .none⟩, [0, 2, 1], [8, 9], 0⟩ ::
   ⟨⟨(some 50), .iaa 2 1 (.t 49) (.c (.int .i64 1)), .none⟩, [7, 0, 1, 2, 3, 4, 5, 6], [9], 0⟩ ::
   ⟨⟨.none, .st 1 (.t 50) (.t 48), .none⟩, [8, 6, 0, 1, 2, 3, 4, 5, 7], [], 2⟩ ::
   []
def Tryd.fn15_r10 : List DIns :=
   ⟨⟨(some 42), .mov (.t 5), .none⟩, [], [3, 4, 5, 6, 7, 8, 9], 0⟩ ::
   ⟨⟨(some 43), .fa 0 (.t 7), .none⟩, [], [2, 3, 4, 5, 6, 7, 8, 9], 0⟩ ::
   ⟨⟨(some 44), .ld1 (.t 43), .none⟩, [1], [3, 4, 5, 6, 7, 8, 9], 2⟩ ::
   ⟨⟨(some 45), .ia 2 (.t 42) (.t 44), .none⟩, [0, 2, 1], [4, 5, 6, 8, 9], 0⟩ ::
   ⟨⟨(some 46), .iaa 2 1 (.t 45) (.c (.int .i64 1)), .none⟩, [3, 0, 2, 1], [5, 6, 8, 9], 0⟩ ::
   ⟨⟨(some 47), .ld1 (.t 46), .none⟩, [4, 3, 0, 2, 1], [6, 8, 9], 2⟩ ::
   Tryd.fn15_r10a
def Tryd.fn15_r11 : List AIns :=
   [⟨(some 51), .bin .add (.t 15) (.c (.int .i64 1)), .none⟩,
      ⟨(some 15), .mov (.t 51), .none⟩]
def Tryd.fn15_r12 : List AIns :=
   [⟨(some 52), .mov (.t 5), .none⟩,
    ⟨(some 4), .mov (.t 52), .none⟩]
def Tryd.fn15_l0 : ACode :=
 (.seq (.seq (.reg Tryd.fn15_r5)
     (.trim [5, 13, 14, 15, 16]))
    (.seq (.cond (.t 16)
      .skip
      (.exit 0))
    (.seq (.block 1
      (.seq (.seq (.reg Tryd.fn15_r6)
       (.trim [5, 7, 13, 14, 15]))
      (.seq (.seq (.seq (.reg Tryd.fn15_r7)
        (.trim [5, 7, 13, 14, 15, 28]))
       (.cond (.t 28)
        (.exit 1)
        .skip))
      (.seq (.seq (.regd Tryd.fn15_r8)
       (.trim [5, 7, 13, 14, 15]))
      (.seq (.seq (.reg Tryd.fn15_r9)
       (.trim [5, 7, 13, 14, 15, 41]))
      (.cond (.t 41)
       (.seq (.regd Tryd.fn15_r10)
       (.trim [5, 13, 14, 15]))
       .skip))))))
    (.seq (.reg Tryd.fn15_r11)
    (.trim [5, 13, 14, 15])))))
def Tryd.fn15 : AFun :=
 ⟨53, [.tmp 4],
 (.seq (.seq (.reg Tryd.fn15_r0)
  (.trim [0, 1]))
 (.seq (.seq (.seq (.reg Tryd.fn15_r1)
   (.trim [0, 1, 9]))
  (.cond (.t 9)
   (.seq (.seq (.reg Tryd.fn15_r2)
    (.trim [4]))
   .ret)
   .skip))
 (.seq (.seq (.reg Tryd.fn15_r3)
  (.trim [0, 5]))
 (.seq (.seq (.seq (.reg Tryd.fn15_r4)
   (.trim [5, 13, 14, 15]))
  (.block 0
   (.loop (some [5, 13, 14, 15])
    Tryd.fn15_l0)))
 (.seq (.seq (.reg Tryd.fn15_r12)
  (.trim [4]))
 .ret))))), true, .none⟩
/-! signalbench/signalbenchref56.Counts -/
def Tryd.fn16_r0 : List AIns :=
   [⟨(some 4), .mov (.c .nils), .none⟩]
def Tryd.fn16_r1 : List AIns :=
   [⟨(some 9), .bsl 35 2 0 [(.int .i64 0), (.int .i64 0)] [], .none⟩,
    ⟨(some 5), .mov (.t 9), .none⟩]
def Tryd.fn16_r2 : List AIns :=
   [⟨(some 6), .mov (.c (.int .i64 0)), .none⟩]
def Tryd.fn16_r3 : List AIns :=
   [⟨(some 10), .mov (.t 6), .none⟩,
        ⟨(some 11), .mov (.t 1), .none⟩,
        ⟨(some 12), .bin .lss (.t 10) (.t 11), .none⟩,
        ⟨(some 13), .mov (.t 12), .none⟩,
        ⟨(some 14), .mov (.t 6), (some (13, true))⟩,
        ⟨(some 15), .bin .lss (.t 14) (.c (.int .i64 16)), (some (13, true))⟩,
        ⟨(some 16), .pick (.t 13) (.t 15) (.c (.bool false)), .none⟩]
def Tryd.fn16_r4 : List AIns :=
   [⟨(some 19), .bld [(.int .i64 0), (.int .i64 0)] [], .none⟩,
         ⟨(some 7), .alloc 35 [(.int .i64 0), (.int .i64 0)], .none⟩,
         ⟨.none, .st 2 (.t 7) (.t 19), .none⟩]
def Tryd.fn16_r5 : List AIns :=
   [⟨(some 8), .mov (.c (.int .i64 0)), .none⟩]
def Tryd.fn16_r6 : List AIns :=
   [⟨(some 20), .mov (.t 8), .none⟩,
             ⟨(some 21), .mov (.t 0), .none⟩,
             ⟨(some 22), .lenl (.t 21), .none⟩,
             ⟨(some 23), .bin .lss (.t 20) (.t 22), .none⟩]
def Tryd.fn16_r7 : List AIns :=
   [⟨(some 26), .mov (.t 0), .none⟩,
              ⟨(some 27), .mov (.t 8), .none⟩,
              ⟨(some 28), .ia 9 (.t 26) (.t 27), .none⟩,
              ⟨(some 29), .fa 0 (.t 28), .none⟩,
              ⟨(some 30), .ld1 (.t 29), .none⟩,
              ⟨(some 31), .mov (.t 6), .none⟩,
              ⟨(some 32), .bin .eql (.t 30) (.t 31), .none⟩]
def Tryd.fn16_r8 : List AIns :=
   [⟨(some 33), .iaa 2 1 (.t 7) (.c (.int .i64 0)), .none⟩,
               ⟨(some 34), .ld1 (.t 33), .none⟩,
               ⟨(some 35), .bin .add (.t 34) (.c (.int .i64 1)), .none⟩,
               ⟨(some 36), .iaa 2 1 (.t 7) (.c (.int .i64 0)), .none⟩,
               ⟨.none, .st 1 (.t 36) (.t 35), .none⟩]
def Tryd.fn16_r9 : List AIns :=
   [⟨(some 37), .mov (.t 0), .none⟩,
               ⟨(some 38), .mov (.t 8), .none⟩,
               ⟨(some 39), .ia 9 (.t 37) (.t 38), .none⟩,
               ⟨(some 40), .fa 2 (.t 39), .none⟩,
               ⟨(some 41), .fa 6 (.t 40), .none⟩,
               ⟨(some 42), .ld1 (.t 41), .none⟩,
               ⟨(some 43), .bin .neq (.t 42) (.c (.int .i64 0)), .none⟩]
def Tryd.fn16_r10 : List AIns :=
   [⟨(some 44), .iaa 2 1 (.t 7) (.c (.int .i64 1)), .none⟩,
               ⟨(some 45), .ld1 (.t 44), .none⟩,
               ⟨(some 46), .bin .add (.t 45) (.c (.int .i64 1)), .none⟩,
               ⟨(some 47), .iaa 2 1 (.t 7) (.c (.int .i64 1)), .none⟩,
               ⟨.none, .st 1 (.t 47) (.t 46), .none⟩]
def Tryd.fn16_r11 : List AIns :=
   [⟨(some 24), .mov (.t 8), .none⟩,
           ⟨(some 25), .bin .add (.t 24) (.c (.int .i64 1)), .none⟩,
           ⟨(some 8), .mov (.t 25), .none⟩]
def Tryd.fn16_r12 : List AIns :=
   [⟨(some 48), .mov (.t 5), .none⟩,
        ⟨(some 49), .ldn 2 (.t 7), .none⟩,
        ⟨(some 50), .bsl 35 2 1 [(.int .i64 0), (.int .i64 0)] [(0, 2, (.t 49))], .none⟩,
        ⟨(some 51), .app 35 2 16 (.t 48) (.t 50), .none⟩,
        ⟨(some 5), .mov (.t 51), .none⟩]
def Tryd.fn16_r13 : List AIns :=
   [⟨(some 17), .mov (.t 6), .none⟩,
      ⟨(some 18), .bin .add (.t 17) (.c (.int .i64 1)), .none⟩,
      ⟨(some 6), .mov (.t 18), .none⟩]
def Tryd.fn16_r14 : List AIns :=
   [⟨(some 52), .mov (.t 5), .none⟩,
    ⟨(some 4), .mov (.t 52), .none⟩]
def Tryd.fn16_l0 : ACode :=
 (.seq (.seq (.seq (.reg Tryd.fn16_r6)
           (.trim [0, 1, 5, 6, 7, 8, 23]))
          (.cond (.t 23)
           .skip
           (.exit 2)))
         (.seq (.block 3
           (.seq (.seq (.reg Tryd.fn16_r7)
            (.trim [0, 1, 5, 6, 7, 8, 32]))
           (.cond (.t 32)
            (.seq (.seq (.reg Tryd.fn16_r8)
             (.trim [0, 1, 5, 6, 7, 8]))
            (.seq (.seq (.reg Tryd.fn16_r9)
             (.trim [0, 1, 5, 6, 7, 8, 43]))
            (.cond (.t 43)
             (.seq (.reg Tryd.fn16_r10)
             (.trim [0, 1, 5, 6, 7, 8]))
             .skip)))
            .skip)))
         (.seq (.reg Tryd.fn16_r11)
         (.trim [0, 1, 5, 6, 7, 8]))))
def Tryd.fn16_l1 : ACode :=
 (.seq (.seq (.seq (.reg Tryd.fn16_r3)
      (.trim [0, 1, 5, 6, 16]))
     (.cond (.t 16)
      .skip
      (.exit 0)))
    (.seq (.block 1
      (.seq (.seq (.reg Tryd.fn16_r4)
       (.trim [0, 1, 5, 6, 7]))
      (.seq (.seq (.seq (.reg Tryd.fn16_r5)
        (.trim [0, 1, 5, 6, 7, 8]))
       (.block 2
        (.loop (some [0, 1, 5, 6, 7, 8])
         Tryd.fn16_l0)))
      (.seq (.reg Tryd.fn16_r12)
      (.trim [0, 1, 5, 6])))))
    (.seq (.reg Tryd.fn16_r13)
    (.trim [0, 1, 5, 6]))))
def Tryd.fn16 : AFun :=
 ⟨53, [.tmp 4],
 (.seq (.seq (.reg Tryd.fn16_r0)
  (.trim [0, 1]))
 (.seq (.seq (.reg Tryd.fn16_r1)
  (.trim [0, 1, 5]))
 (.seq (.seq (.seq (.reg Tryd.fn16_r2)
   (.trim [0, 1, 5, 6]))
  (.block 0
   (.loop (some [0, 1, 5, 6])
    Tryd.fn16_l1)))
 (.seq (.seq (.reg Tryd.fn16_r14)
  (.trim [4]))
 .ret)))), true, .none⟩
/-! signalbench/report.Rows -/
def Tryd.fn17_r0 : List AIns :=
   [⟨(some 2), .mov (.c .nils), .none⟩,
    ⟨(some 3), .mov (.c (.int .i64 0)), .none⟩]
def Tryd.fn17_r1 : List AIns :=
   [⟨(some 9), .mov (.t 0), .none⟩,
     ⟨(some 10), .lens (.t 9), .none⟩,
     ⟨(some 11), .bin .gtr (.t 10) (.c (.int .i64 1048576)), .none⟩]
def Tryd.fn17_r2 : List AIns :=
   [⟨(some 2), .mov (.c .nils), .none⟩,
      ⟨(some 3), .mov (.c (.int .i64 6)), .none⟩]
def Tryd.fn17_r3 : List AIns :=
   [⟨(some 4), .mov (.c .nils), .none⟩]
def Tryd.fn17_r4 : List AIns :=
   [⟨(some 12), .mov (.t 0), .none⟩,
     ⟨(some 5), .mov (.t 12), .none⟩]
def Tryd.fn17_r5 : List AIns :=
   [⟨(some 13), .mov (.t 5), .none⟩,
        ⟨(some 14), .bin .neq (.t 13) (.c (.str [])), .none⟩]
def Tryd.fn17_r6 : List AIns :=
   [⟨(some 15), .mov (.t 5), .none⟩,
        ⟨(some 16), .call 35 [(.t 15), (.c (.int .u8 10))], .none⟩,
        ⟨(some 6), .mov (.t 16), .none⟩]
def Tryd.fn17_r7 : List AIns :=
   [⟨(some 17), .mov (.t 6), .none⟩,
         ⟨(some 18), .bin .lss (.t 17) (.c (.int .i64 0)), .none⟩]
def Tryd.fn17_r8 : List AIns :=
   [⟨(some 2), .mov (.c .nils), .none⟩,
          ⟨(some 3), .mov (.c (.int .i64 4)), .none⟩]
def Tryd.fn17_r9 : List AIns :=
   [⟨(some 19), .mov (.t 4), .none⟩,
        ⟨(some 20), .mov (.t 5), .none⟩,
        ⟨(some 21), .mov (.t 6), .none⟩,
        ⟨(some 22), .sub (.t 20) .none (some (.t 21)), .none⟩,
        ⟨(some 23), .call 36 [(.t 22)], .none⟩,
        ⟨(some 24), .bsl 29 1 1 [.nils] [(0, 1, (.t 23))], .none⟩,
        ⟨(some 25), .app 29 1 24 (.t 19) (.t 24), .none⟩,
        ⟨(some 4), .mov (.t 25), .none⟩]
def Tryd.fn17_r10 : List AIns :=
   [⟨(some 26), .mov (.t 5), .none⟩,
       ⟨(some 27), .mov (.t 6), .none⟩,
       ⟨(some 28), .bin .add (.t 27) (.c (.int .i64 1)), .none⟩,
       ⟨(some 29), .sub (.t 26) (some (.t 28)) .none, .none⟩,
       ⟨(some 5), .mov (.t 29), .none⟩]
def Tryd.fn17_r11 : List AIns :=
   [⟨(some 31), .mov (.t 4), .none⟩,
     ⟨(some 32), .call 10 [(.t 31)], .none⟩,
     ⟨(some 30), .mov (.t 32), .none⟩,
     ⟨(some 33), .ext 0 (.t 30), .none⟩,
     ⟨(some 34), .ext 1 (.t 30), .none⟩,
     ⟨(some 7), .mov (.t 33), .none⟩,
     ⟨(some 8), .mov (.t 34), .none⟩]
def Tryd.fn17_r12 : List AIns :=
   [⟨(some 35), .mov (.t 8), .none⟩,
     ⟨(some 36), .bin .neq (.t 35) (.c (.int .i64 0)), .none⟩,
     ⟨(some 37), .mov (.t 36), .none⟩,
     ⟨(some 38), .mov (.t 7), (some (37, false))⟩,
     ⟨(some 39), .mov (.t 0), (some (37, false))⟩,
     ⟨(some 40), .bin .neq (.t 38) (.t 39), (some (37, false))⟩,
     ⟨(some 41), .pick (.t 37) (.c (.bool true)) (.t 40), .none⟩]
def Tryd.fn17_r13 : List AIns :=
   [⟨(some 2), .mov (.c .nils), .none⟩,
      ⟨(some 3), .mov (.c (.int .i64 4)), .none⟩]
def Tryd.fn17_r14 : List AIns :=
   [⟨(some 42), .mov (.t 4), .none⟩,
    ⟨(some 2), .mov (.t 42), .none⟩,
    ⟨(some 3), .mov (.c (.int .i64 0)), .none⟩]
def Tryd.fn17_l0 : ACode :=
 (.seq (.seq (.seq (.reg Tryd.fn17_r5)
      (.trim [0, 4, 5, 14]))
     (.cond (.t 14)
      .skip
      (.exit 0)))
    (.block 1
     (.seq (.seq (.reg Tryd.fn17_r6)
      (.trim [0, 4, 5, 6]))
     (.seq (.seq (.seq (.reg Tryd.fn17_r7)
       (.trim [0, 4, 5, 6, 18]))
      (.cond (.t 18)
       (.seq (.seq (.reg Tryd.fn17_r8)
        (.trim [2, 3]))
       .ret)
       .skip))
     (.seq (.seq (.reg Tryd.fn17_r9)
      (.trim [0, 4, 5, 6]))
     (.seq (.reg Tryd.fn17_r10)
     (.trim [0, 4, 5])))))))
def Tryd.fn17 : AFun :=
 ⟨43, [.tmp 2, .tmp 3],
 (.seq (.seq (.reg Tryd.fn17_r0)
  (.trim [0]))
 (.seq (.seq (.seq (.reg Tryd.fn17_r1)
   (.trim [0, 11]))
  (.cond (.t 11)
   (.seq (.seq (.reg Tryd.fn17_r2)
    (.trim [2, 3]))
   .ret)
   .skip))
 (.seq (.seq (.reg Tryd.fn17_r3)
  (.trim [0, 4]))
 (.seq (.seq (.seq (.reg Tryd.fn17_r4)
   (.trim [0, 4, 5]))
  (.block 0
   (.loop (some [0, 4, 5])
    Tryd.fn17_l0)))
 (.seq (.seq (.seq (.reg Tryd.fn17_r11)
   (.trim [0, 4, 7, 8]))
  (.seq (.seq (.reg Tryd.fn17_r12)
   (.trim [4, 41]))
  (.cond (.t 41)
   (.seq (.seq (.reg Tryd.fn17_r13)
    (.trim [2, 3]))
   .ret)
   .skip)))
 (.seq (.seq (.reg Tryd.fn17_r14)
  (.trim [2, 3]))
 .ret)))))), false, .none⟩
/-! signalbench/signalbenchref56.Rows -/
def Tryd.fn18_r0 : List AIns :=
   [⟨(some 2), .mov (.c .nils), .none⟩,
    ⟨(some 3), .mov (.c (.int .i64 0)), .none⟩]
def Tryd.fn18_r1 : List AIns :=
   [⟨(some 10), .mov (.t 0), .none⟩,
     ⟨(some 11), .lens (.t 10), .none⟩,
     ⟨(some 12), .bin .gtr (.t 11) (.c (.int .i64 1048576)), .none⟩]
def Tryd.fn18_r2 : List AIns :=
   [⟨(some 2), .mov (.c .nils), .none⟩,
      ⟨(some 3), .mov (.c (.int .i64 6)), .none⟩]
def Tryd.fn18_r3 : List AIns :=
   [⟨(some 14), .mov (.t 0), .none⟩,
    ⟨(some 15), .call 37 [(.t 14)], .none⟩,
    ⟨(some 13), .mov (.t 15), .none⟩,
    ⟨(some 16), .ext 0 (.t 13), .none⟩,
    ⟨(some 17), .ext 1 (.t 13), .none⟩,
    ⟨(some 4), .mov (.t 16), .none⟩,
    ⟨(some 5), .mov (.t 17), .none⟩]
def Tryd.fn18_r4 : List AIns :=
   [⟨(some 18), .bsl 29 1 0 [.nils] [], .none⟩,
    ⟨(some 6), .mov (.t 18), .none⟩]
def Tryd.fn18_r5 : List AIns :=
   [⟨(some 7), .mov (.c (.int .i64 0)), .none⟩]
def Tryd.fn18_r6 : List AIns :=
   [⟨(some 19), .mov (.t 7), .none⟩,
        ⟨(some 20), .mov (.t 4), .none⟩,
        ⟨(some 21), .lenl (.t 20), .none⟩,
        ⟨(some 22), .bin .lss (.t 19) (.t 21), .none⟩]
def Tryd.fn18_r7 : List AIns :=
   [⟨(some 25), .mov (.t 6), .none⟩,
        ⟨(some 26), .mov (.t 4), .none⟩,
        ⟨(some 27), .mov (.t 7), .none⟩,
        ⟨(some 28), .ia 1 (.t 26) (.t 27), .none⟩,
        ⟨(some 29), .ld1 (.t 28), .none⟩,
        ⟨(some 30), .call 38 [(.t 29)], .none⟩,
        ⟨(some 31), .bsl 29 1 1 [.nils] [(0, 1, (.t 30))], .none⟩,
        ⟨(some 32), .app 29 1 24 (.t 25) (.t 31), .none⟩,
        ⟨(some 6), .mov (.t 32), .none⟩]
def Tryd.fn18_r8 : List AIns :=
   [⟨(some 23), .mov (.t 7), .none⟩,
      ⟨(some 24), .bin .add (.t 23) (.c (.int .i64 1)), .none⟩,
      ⟨(some 7), .mov (.t 24), .none⟩]
def Tryd.fn18_r9 : List AIns :=
   [⟨(some 34), .mov (.t 6), .none⟩,
    ⟨(some 35), .call 11 [(.t 34)], .none⟩,
    ⟨(some 33), .mov (.t 35), .none⟩,
    ⟨(some 36), .ext 0 (.t 33), .none⟩,
    ⟨(some 37), .ext 1 (.t 33), .none⟩,
    ⟨(some 8), .mov (.t 36), .none⟩,
    ⟨(some 9), .mov (.t 37), .none⟩]
def Tryd.fn18_r10 : List AIns :=
   [⟨(some 38), .mov (.t 9), .none⟩,
      ⟨(some 39), .bin .neq (.t 38) (.c (.int .i64 0)), .none⟩,
      ⟨(some 40), .mov (.t 39), .none⟩,
      ⟨(some 41), .mov (.t 8), (some (40, false))⟩,
      ⟨(some 42), .mov (.t 0), (some (40, false))⟩,
      ⟨(some 43), .bin .neq (.t 41) (.t 42), (some (40, false))⟩,
      ⟨(some 44), .pick (.t 40) (.c (.bool true)) (.t 43), .none⟩,
      ⟨(some 45), .mov (.t 44), .none⟩,
      ⟨(some 46), .mov (.t 5), (some (45, false))⟩,
      ⟨(some 47), .un .not (.t 46), (some (45, false))⟩]
def Tryd.fn18_r11 : List AIns :=
   [⟨(some 48), .pick (.t 45) (.c (.bool true)) (.t 47), .none⟩]
def Tryd.fn18_r12 : List AIns :=
   [⟨(some 2), .mov (.c .nils), .none⟩,
      ⟨(some 3), .mov (.c (.int .i64 4)), .none⟩]
def Tryd.fn18_r13 : List AIns :=
   [⟨(some 49), .mov (.t 6), .none⟩,
    ⟨(some 2), .mov (.t 49), .none⟩,
    ⟨(some 3), .mov (.c (.int .i64 0)), .none⟩]
def Tryd.fn18_l0 : ACode :=
 (.seq (.seq (.seq (.reg Tryd.fn18_r6)
      (.trim [0, 4, 5, 6, 7, 22]))
     (.cond (.t 22)
      .skip
      (.exit 0)))
    (.seq (.block 1
      (.seq (.reg Tryd.fn18_r7)
      (.trim [0, 4, 5, 6, 7])))
    (.seq (.reg Tryd.fn18_r8)
    (.trim [0, 4, 5, 6, 7]))))
def Tryd.fn18 : AFun :=
 ⟨50, [.tmp 2, .tmp 3],
 (.seq (.seq (.reg Tryd.fn18_r0)
  (.trim [0]))
 (.seq (.seq (.seq (.reg Tryd.fn18_r1)
   (.trim [0, 12]))
  (.cond (.t 12)
   (.seq (.seq (.reg Tryd.fn18_r2)
    (.trim [2, 3]))
   .ret)
   .skip))
 (.seq (.seq (.reg Tryd.fn18_r3)
  (.trim [0, 4, 5]))
 (.seq (.seq (.reg Tryd.fn18_r4)
  (.trim [0, 4, 5, 6]))
 (.seq (.seq (.seq (.reg Tryd.fn18_r5)
   (.trim [0, 4, 5, 6, 7]))
  (.block 0
   (.loop (some [0, 4, 5, 6, 7])
    Tryd.fn18_l0)))
 (.seq (.seq (.reg Tryd.fn18_r9)
  (.trim [0, 5, 6, 8, 9]))
 (.seq (.seq (.seq (.seq (.reg Tryd.fn18_r10)
    (.trim [6, 45, 47]))
   (.seq (.reg Tryd.fn18_r11)
   (.trim [6, 48])))
  (.cond (.t 48)
   (.seq (.seq (.reg Tryd.fn18_r12)
    (.trim [2, 3]))
   .ret)
   .skip))
 (.seq (.seq (.reg Tryd.fn18_r13)
  (.trim [2, 3]))
 .ret)))))))), false, .none⟩
/-! signalbench/signalbenchlaw56.sameRows -/
def Tryd.fn19_r0 : List AIns :=
   [⟨(some 4), .mov (.c (.bool false)), .none⟩]
def Tryd.fn19_r1 : List AIns :=
   [⟨(some 7), .mov (.t 0), .none⟩,
     ⟨(some 8), .lenl (.t 7), .none⟩,
     ⟨(some 9), .mov (.t 1), .none⟩,
     ⟨(some 10), .lenl (.t 9), .none⟩,
     ⟨(some 11), .bin .neq (.t 8) (.t 10), .none⟩]
def Tryd.fn19_r2 : List AIns :=
   [⟨(some 4), .mov (.c (.bool false)), .none⟩]
def Tryd.fn19_r3 : List AIns :=
   [⟨(some 5), .mov (.c (.int .i64 0)), .none⟩]
def Tryd.fn19_r4 : List AIns :=
   [⟨(some 12), .mov (.t 5), .none⟩,
        ⟨(some 13), .mov (.t 0), .none⟩,
        ⟨(some 14), .lenl (.t 13), .none⟩,
        ⟨(some 15), .bin .lss (.t 12) (.t 14), .none⟩]
def Tryd.fn19_r5a : List DIns :=
   ⟨⟨(some 24), .mov (.t 5), .none⟩, [], [7, 8, 9, 10], 0⟩ ::
   ⟨⟨(some 25), .ia 1 (.t 23) (.t 24), .none⟩, [5, 6], [8, 9, 10], 0⟩ ::
   ⟨⟨(some 26), .ld1 (.t 25), .none⟩, [7, 5, 6], [9, 10], 1⟩ ::
   ⟨⟨(some 27), .lenl (.t 26), .none⟩, [8, 7, 5, 6], [10], 0⟩ ::
   ⟨⟨(some 28), .bin .neq (.t 22) (.t 27), .none⟩, [4, 9, 3, 2, 0, 1, 8, 7, 5, 6], [], 0⟩ ::
   []
def Tryd.fn19_r5 : List DIns :=
   ⟨⟨(some 18), .mov (.t 0), .none⟩, [], [2, 3, 4, 10], 0⟩ ::
   ⟨⟨(some 19), .mov (.t 5), .none⟩, [], [2, 3, 4, 10], 0⟩ ::
   ⟨⟨(some 20), .ia 1 (.t 18) (.t 19), .none⟩, [0, 1], [3, 4, 10], 0⟩ ::
   ⟨⟨(some 21), .ld1 (.t 20), .none⟩, [2, 0, 1], [4, 10], 1⟩ ::
   ⟨⟨(some 22), .lenl (.t 21), .none⟩, [3, 2, 0, 1], [10], 0⟩ ::
   ⟨⟨(some 23), .mov (.t 1), .none⟩, [], [7, 8, 9, 10], 0⟩ ::
   Tryd.fn19_r5a
def Tryd.fn19_r6 : List AIns :=
   [⟨(some 4), .mov (.c (.bool false)), .none⟩]
def Tryd.fn19_r7 : List AIns :=
   [⟨(some 6), .mov (.c (.int .i64 0)), .none⟩]
def Tryd.fn19_r8 : List AIns :=
   [⟨(some 29), .mov (.t 6), .none⟩,
            ⟨(some 30), .mov (.t 0), .none⟩,
            ⟨(some 31), .mov (.t 5), .none⟩,
            ⟨(some 32), .ia 1 (.t 30) (.t 31), .none⟩,
            ⟨(some 33), .ld1 (.t 32), .none⟩,
            ⟨(some 34), .lenl (.t 33), .none⟩,
            ⟨(some 35), .bin .lss (.t 29) (.t 34), .none⟩]
def Tryd.fn19_r9b : List DIns :=
   ⟨⟨(some 50), .ia 1 (.t 48) (.t 49), .none⟩, [10, 11, 9, 7, 8], [13, 14], 0⟩ ::
   ⟨⟨(some 51), .ld1 (.t 50), .none⟩, [12, 10, 11, 9, 7, 8], [14], 1⟩ ::
   ⟨⟨(some 52), .bin .neq (.t 44) (.t 51), .none⟩, [6, 13, 5, 3, 4, 2, 0, 1, 12, 10, 11, 9, 7, 8], [], 0⟩ ::
   []
def Tryd.fn19_r9a : List DIns :=
   ⟨⟨(some 44), .ld1 (.t 43), .none⟩, [5, 3, 4, 2, 0, 1], [14], 1⟩ ::
   ⟨⟨(some 45), .mov (.t 1), .none⟩, [], [9, 10, 12, 13, 14], 0⟩ ::
   ⟨⟨(some 46), .mov (.t 5), .none⟩, [], [9, 10, 12, 13, 14], 0⟩ ::
   ⟨⟨(some 47), .ia 1 (.t 45) (.t 46), .none⟩, [7, 8], [10, 12, 13, 14], 0⟩ ::
   ⟨⟨(some 48), .ld1 (.t 47), .none⟩, [9, 7, 8], [12, 13, 14], 1⟩ ::
   ⟨⟨(some 49), .mov (.t 6), .none⟩, [], [12, 13, 14], 0⟩ ::
   Tryd.fn19_r9b
def Tryd.fn19_r9 : List DIns :=
   ⟨⟨(some 38), .mov (.t 0), .none⟩, [], [2, 3, 5, 6, 14], 0⟩ ::
   ⟨⟨(some 39), .mov (.t 5), .none⟩, [], [2, 3, 5, 6, 14], 0⟩ ::
   ⟨⟨(some 40), .ia 1 (.t 38) (.t 39), .none⟩, [0, 1], [3, 5, 6, 14], 0⟩ ::
   ⟨⟨(some 41), .ld1 (.t 40), .none⟩, [2, 0, 1], [5, 6, 14], 1⟩ ::
   ⟨⟨(some 42), .mov (.t 6), .none⟩, [], [5, 6, 14], 0⟩ ::
   ⟨⟨(some 43), .ia 1 (.t 41) (.t 42), .none⟩, [3, 4, 2, 0, 1], [6, 14], 0⟩ ::
   Tryd.fn19_r9a
def Tryd.fn19_r10 : List AIns :=
   [⟨(some 4), .mov (.c (.bool false)), .none⟩]
def Tryd.fn19_r11 : List AIns :=
   [⟨(some 36), .mov (.t 6), .none⟩,
          ⟨(some 37), .bin .add (.t 36) (.c (.int .i64 1)), .none⟩,
          ⟨(some 6), .mov (.t 37), .none⟩]
def Tryd.fn19_r12 : List AIns :=
   [⟨(some 16), .mov (.t 5), .none⟩,
      ⟨(some 17), .bin .add (.t 16) (.c (.int .i64 1)), .none⟩,
      ⟨(some 5), .mov (.t 17), .none⟩]
def Tryd.fn19_r13 : List AIns :=
   [⟨(some 4), .mov (.c (.bool true)), .none⟩]
def Tryd.fn19_l0 : ACode :=
 (.seq (.seq (.seq (.reg Tryd.fn19_r8)
          (.trim [0, 1, 5, 6, 35]))
         (.cond (.t 35)
          .skip
          (.exit 2)))
        (.seq (.block 3
          (.seq (.seq (.regd Tryd.fn19_r9)
           (.trim [0, 1, 5, 6, 52]))
          (.cond (.t 52)
           (.seq (.seq (.reg Tryd.fn19_r10)
            (.trim [4]))
           .ret)
           .skip)))
        (.seq (.reg Tryd.fn19_r11)
        (.trim [0, 1, 5, 6]))))
def Tryd.fn19_l1 : ACode :=
 (.seq (.seq (.seq (.reg Tryd.fn19_r4)
      (.trim [0, 1, 5, 15]))
     (.cond (.t 15)
      .skip
      (.exit 0)))
    (.seq (.block 1
      (.seq (.seq (.seq (.regd Tryd.fn19_r5)
        (.trim [0, 1, 5, 28]))
       (.cond (.t 28)
        (.seq (.seq (.reg Tryd.fn19_r6)
         (.trim [4]))
        .ret)
        .skip))
      (.seq (.seq (.reg Tryd.fn19_r7)
       (.trim [0, 1, 5, 6]))
      (.block 2
       (.loop (some [0, 1, 5, 6])
        Tryd.fn19_l0)))))
    (.seq (.reg Tryd.fn19_r12)
    (.trim [0, 1, 5]))))
def Tryd.fn19 : AFun :=
 ⟨53, [.tmp 4],
 (.seq (.seq (.reg Tryd.fn19_r0)
  (.trim [0, 1]))
 (.seq (.seq (.seq (.reg Tryd.fn19_r1)
   (.trim [0, 1, 11]))
  (.cond (.t 11)
   (.seq (.seq (.reg Tryd.fn19_r2)
    (.trim [4]))
   .ret)
   .skip))
 (.seq (.seq (.seq (.reg Tryd.fn19_r3)
   (.trim [0, 1, 5]))
  (.block 0
   (.loop (some [0, 1, 5])
    Tryd.fn19_l1)))
 (.seq (.seq (.reg Tryd.fn19_r13)
  (.trim [4]))
 .ret)))), false, .none⟩
/-! signalbench/report.widths -/
def Tryd.fn20_r0 : List AIns :=
   [⟨(some 2), .mov (.c .nils), .none⟩,
    ⟨(some 3), .mov (.c (.bool false)), .none⟩]
def Tryd.fn20_r1 : List AIns :=
   [⟨(some 9), .mov (.t 0), .none⟩,
     ⟨(some 10), .lenl (.t 9), .none⟩,
     ⟨(some 11), .bin .eql (.t 10) (.c (.int .i64 0)), .none⟩]
def Tryd.fn20_r2 : List AIns :=
   [⟨(some 2), .mov (.c .nils), .none⟩,
      ⟨(some 3), .mov (.c (.bool true)), .none⟩]
def Tryd.fn20_r3 : List AIns :=
   [⟨(some 12), .mov (.t 0), .none⟩,
    ⟨(some 13), .ia 1 (.t 12) (.c (.int .i64 0)), .none⟩,
    ⟨(some 14), .ld1 (.t 13), .none⟩,
    ⟨(some 15), .lenl (.t 14), .none⟩,
    ⟨(some 16), .mks 3 1 8 [(.int .i64 0)] (.t 15) (.t 15), .none⟩,
    ⟨(some 4), .mov (.t 16), .none⟩]
def Tryd.fn20_r4 : List AIns :=
   [⟨(some 17), .mov (.t 0), .none⟩,
     ⟨(some 18), .lenl (.t 17), .none⟩,
     ⟨(some 19), .mov (.c (.int .i64 0)), .none⟩]
def Tryd.fn20_r5 : List AIns :=
   [⟨(some 20), .bin .lss (.t 19) (.t 18), .none⟩]
def Tryd.fn20_r6 : List AIns :=
   [⟨(some 21), .ia 1 (.t 17) (.t 19), .none⟩,
         ⟨(some 22), .ld1 (.t 21), .none⟩,
         ⟨(some 6), .mov (.t 22), .none⟩]
def Tryd.fn20_r7 : List AIns :=
   [⟨(some 23), .mov (.t 6), .none⟩,
          ⟨(some 24), .lenl (.t 23), .none⟩,
          ⟨(some 25), .bin .eql (.t 24) (.c (.int .i64 0)), .none⟩,
          ⟨(some 26), .mov (.t 25), .none⟩,
          ⟨(some 27), .mov (.t 6), (some (26, false))⟩,
          ⟨(some 28), .lenl (.t 27), (some (26, false))⟩,
          ⟨(some 29), .mov (.t 4), (some (26, false))⟩,
          ⟨(some 30), .lenl (.t 29), (some (26, false))⟩,
          ⟨(some 31), .bin .neq (.t 28) (.t 30), (some (26, false))⟩,
          ⟨(some 32), .pick (.t 26) (.c (.bool true)) (.t 31), .none⟩]
def Tryd.fn20_r8 : List AIns :=
   [⟨(some 2), .mov (.c .nils), .none⟩,
           ⟨(some 3), .mov (.c (.bool false)), .none⟩]
def Tryd.fn20_r9 : List AIns :=
   [⟨(some 33), .mov (.t 6), .none⟩,
         ⟨(some 34), .lenl (.t 33), .none⟩,
         ⟨(some 35), .mov (.c (.int .i64 0)), .none⟩]
def Tryd.fn20_r10 : List AIns :=
   [⟨(some 36), .bin .lss (.t 35) (.t 34), .none⟩]
def Tryd.fn20_r11 : List AIns :=
   [⟨(some 37), .mov (.t 35), .none⟩,
             ⟨(some 38), .ia 1 (.t 33) (.t 35), .none⟩,
             ⟨(some 39), .ld1 (.t 38), .none⟩,
             ⟨(some 7), .mov (.t 37), .none⟩,
             ⟨(some 8), .mov (.t 39), .none⟩]
def Tryd.fn20_r12 : List AIns :=
   [⟨(some 40), .mov (.t 8), .none⟩,
              ⟨(some 41), .call 39 [(.t 40)], .none⟩,
              ⟨(some 42), .un .not (.t 41), .none⟩]
def Tryd.fn20_r13 : List AIns :=
   [⟨(some 2), .mov (.c .nils), .none⟩,
               ⟨(some 3), .mov (.c (.bool false)), .none⟩]
def Tryd.fn20_r14 : List AIns :=
   [⟨(some 43), .mov (.t 4), .none⟩,
             ⟨(some 44), .mov (.t 7), .none⟩,
             ⟨(some 45), .mov (.t 4), .none⟩,
             ⟨(some 46), .mov (.t 7), .none⟩,
             ⟨(some 47), .ia 1 (.t 45) (.t 46), .none⟩,
             ⟨(some 48), .ld1 (.t 47), .none⟩,
             ⟨(some 49), .mov (.t 8), .none⟩,
             ⟨(some 50), .lens (.t 49), .none⟩,
             ⟨(some 51), .mx (.t 48) (.t 50), .none⟩,
             ⟨(some 52), .ia 1 (.t 43) (.t 44), .none⟩]
def Tryd.fn20_r15 : List AIns :=
   [⟨.none, .st 1 (.t 52) (.t 51), .none⟩]
def Tryd.fn20_r16 : List AIns :=
   [⟨(some 53), .bin .add (.t 35) (.c (.int .i64 1)), .none⟩,
          ⟨(some 35), .mov (.t 53), .none⟩]
def Tryd.fn20_r17 : List AIns :=
   [⟨(some 54), .bin .add (.t 19) (.c (.int .i64 1)), .none⟩,
      ⟨(some 19), .mov (.t 54), .none⟩]
def Tryd.fn20_r18 : List AIns :=
   [⟨(some 55), .mov (.t 4), .none⟩,
    ⟨(some 2), .mov (.t 55), .none⟩,
    ⟨(some 3), .mov (.c (.bool true)), .none⟩]
def Tryd.fn20_l0 : ACode :=
 (.seq (.seq (.reg Tryd.fn20_r10)
         (.trim [4, 17, 18, 19, 33, 34, 35, 36]))
        (.seq (.cond (.t 36)
          .skip
          (.exit 2))
        (.seq (.block 3
          (.seq (.seq (.reg Tryd.fn20_r11)
           (.trim [4, 7, 8, 17, 18, 19, 33, 34, 35]))
          (.seq (.seq (.seq (.reg Tryd.fn20_r12)
            (.trim [4, 7, 8, 17, 18, 19, 33, 34, 35, 42]))
           (.cond (.t 42)
            (.seq (.seq (.reg Tryd.fn20_r13)
             (.trim [2, 3]))
            .ret)
            .skip))
          (.seq (.seq (.reg Tryd.fn20_r14)
           (.trim [4, 17, 18, 19, 33, 34, 35, 51, 52]))
          (.seq (.reg Tryd.fn20_r15)
          (.trim [4, 17, 18, 19, 33, 34, 35]))))))
        (.seq (.reg Tryd.fn20_r16)
        (.trim [4, 17, 18, 19, 33, 34, 35])))))
def Tryd.fn20_l1 : ACode :=
 (.seq (.seq (.reg Tryd.fn20_r5)
     (.trim [4, 17, 18, 19, 20]))
    (.seq (.cond (.t 20)
      .skip
      (.exit 0))
    (.seq (.block 1
      (.seq (.seq (.reg Tryd.fn20_r6)
       (.trim [4, 6, 17, 18, 19]))
      (.seq (.seq (.seq (.reg Tryd.fn20_r7)
        (.trim [4, 6, 17, 18, 19, 32]))
       (.cond (.t 32)
        (.seq (.seq (.reg Tryd.fn20_r8)
         (.trim [2, 3]))
        .ret)
        .skip))
      (.seq (.seq (.reg Tryd.fn20_r9)
       (.trim [4, 17, 18, 19, 33, 34, 35]))
      (.block 2
       (.loop (some [4, 17, 18, 19, 33, 34, 35])
        Tryd.fn20_l0))))))
    (.seq (.reg Tryd.fn20_r17)
    (.trim [4, 17, 18, 19])))))
def Tryd.fn20 : AFun :=
 ⟨56, [.tmp 2, .tmp 3],
 (.seq (.seq (.reg Tryd.fn20_r0)
  (.trim [0]))
 (.seq (.seq (.seq (.reg Tryd.fn20_r1)
   (.trim [0, 11]))
  (.cond (.t 11)
   (.seq (.seq (.reg Tryd.fn20_r2)
    (.trim [2, 3]))
   .ret)
   .skip))
 (.seq (.seq (.reg Tryd.fn20_r3)
  (.trim [0, 4]))
 (.seq (.seq (.seq (.reg Tryd.fn20_r4)
   (.trim [4, 17, 18, 19]))
  (.block 0
   (.loop (some [4, 17, 18, 19])
    Tryd.fn20_l1)))
 (.seq (.seq (.reg Tryd.fn20_r18)
  (.trim [2, 3]))
 .ret))))), false, .none⟩
/-! signalbench/report.size -/
def Tryd.fn21_r0 : List AIns :=
   [⟨(some 4), .mov (.c (.int .i64 0)), .none⟩]
def Tryd.fn21_r1 : List AIns :=
   [⟨(some 5), .mov (.c (.int .i64 0)), .none⟩]
def Tryd.fn21_r2 : List AIns :=
   [⟨(some 10), .mov (.t 0), .none⟩,
     ⟨(some 11), .lenl (.t 10), .none⟩,
     ⟨(some 12), .mov (.c (.int .i64 0)), .none⟩]
def Tryd.fn21_r3 : List AIns :=
   [⟨(some 13), .bin .lss (.t 12) (.t 11), .none⟩]
def Tryd.fn21_r4 : List AIns :=
   [⟨(some 14), .ia 1 (.t 10) (.t 12), .none⟩,
         ⟨(some 15), .ld1 (.t 14), .none⟩,
         ⟨(some 7), .mov (.t 15), .none⟩]
def Tryd.fn21_r5 : List AIns :=
   [⟨(some 16), .mov (.t 7), .none⟩,
         ⟨(some 17), .lenl (.t 16), .none⟩,
         ⟨(some 18), .mov (.c (.int .i64 0)), .none⟩]
def Tryd.fn21_r6 : List AIns :=
   [⟨(some 19), .bin .lss (.t 18) (.t 17), .none⟩]
def Tryd.fn21_r7 : List AIns :=
   [⟨(some 20), .mov (.t 18), .none⟩,
             ⟨(some 21), .ia 1 (.t 16) (.t 18), .none⟩,
             ⟨(some 22), .ld1 (.t 21), .none⟩,
             ⟨(some 8), .mov (.t 20), .none⟩,
             ⟨(some 9), .mov (.t 22), .none⟩]
def Tryd.fn21_r8 : List AIns :=
   [⟨(some 23), .mov (.t 8), .none⟩,
              ⟨(some 24), .mov (.t 7), .none⟩,
              ⟨(some 25), .lenl (.t 24), .none⟩,
              ⟨(some 26), .bin .sub (.t 25) (.c (.int .i64 1)), .none⟩,
              ⟨(some 27), .bin .eql (.t 23) (.t 26), .none⟩]
def Tryd.fn21_r9 : List AIns :=
   [⟨(some 28), .mov (.t 5), .none⟩,
              ⟨(some 29), .mov (.t 9), .none⟩,
              ⟨(some 30), .lens (.t 29), .none⟩,
              ⟨(some 31), .bin .add (.t 30) (.c (.int .i64 1)), .none⟩,
              ⟨(some 32), .bin .add (.t 28) (.t 31), .none⟩,
              ⟨(some 5), .mov (.t 32), .none⟩]
def Tryd.fn21_r10 : List AIns :=
   [⟨(some 33), .mov (.t 5), .none⟩,
              ⟨(some 34), .mov (.t 1), .none⟩,
              ⟨(some 35), .mov (.t 8), .none⟩,
              ⟨(some 36), .ia 1 (.t 34) (.t 35), .none⟩,
              ⟨(some 37), .ld1 (.t 36), .none⟩,
              ⟨(some 38), .bin .add (.t 37) (.c (.int .i64 2)), .none⟩,
              ⟨(some 39), .bin .add (.t 33) (.t 38), .none⟩,
              ⟨(some 5), .mov (.t 39), .none⟩]
def Tryd.fn21_r11 : List AIns :=
   [⟨(some 40), .mov (.t 5), .none⟩,
             ⟨(some 41), .bin .gtr (.t 40) (.c (.int .i64 1048576)), .none⟩]
def Tryd.fn21_r12 : List AIns :=
   [⟨(some 42), .mov (.t 5), .none⟩,
              ⟨(some 4), .mov (.t 42), .none⟩]
def Tryd.fn21_r13 : List AIns :=
   [⟨(some 43), .bin .add (.t 18) (.c (.int .i64 1)), .none⟩,
          ⟨(some 18), .mov (.t 43), .none⟩]
def Tryd.fn21_r14 : List AIns :=
   [⟨(some 44), .bin .add (.t 12) (.c (.int .i64 1)), .none⟩,
      ⟨(some 12), .mov (.t 44), .none⟩]
def Tryd.fn21_r15 : List AIns :=
   [⟨(some 45), .mov (.t 5), .none⟩,
    ⟨(some 4), .mov (.t 45), .none⟩]
def Tryd.fn21_l0 : ACode :=
 (.seq (.seq (.reg Tryd.fn21_r6)
         (.trim [1, 5, 7, 10, 11, 12, 16, 17, 18, 19]))
        (.seq (.cond (.t 19)
          .skip
          (.exit 2))
        (.seq (.block 3
          (.seq (.seq (.reg Tryd.fn21_r7)
           (.trim [1, 5, 7, 8, 9, 10, 11, 12, 16, 17, 18]))
          (.seq (.seq (.seq (.reg Tryd.fn21_r8)
            (.trim [1, 5, 7, 8, 9, 10, 11, 12, 16, 17, 18, 27]))
           (.cond (.t 27)
            (.seq (.reg Tryd.fn21_r9)
            (.trim [1, 5, 7, 10, 11, 12, 16, 17, 18]))
            (.seq (.reg Tryd.fn21_r10)
            (.trim [1, 5, 7, 10, 11, 12, 16, 17, 18]))))
          (.seq (.seq (.reg Tryd.fn21_r11)
           (.trim [1, 5, 7, 10, 11, 12, 16, 17, 18, 41]))
          (.cond (.t 41)
           (.seq (.seq (.reg Tryd.fn21_r12)
            (.trim [4]))
           .ret)
           .skip)))))
        (.seq (.reg Tryd.fn21_r13)
        (.trim [1, 5, 7, 10, 11, 12, 16, 17, 18])))))
def Tryd.fn21_l1 : ACode :=
 (.seq (.seq (.reg Tryd.fn21_r3)
     (.trim [1, 5, 10, 11, 12, 13]))
    (.seq (.cond (.t 13)
      .skip
      (.exit 0))
    (.seq (.block 1
      (.seq (.seq (.reg Tryd.fn21_r4)
       (.trim [1, 5, 7, 10, 11, 12]))
      (.seq (.seq (.reg Tryd.fn21_r5)
       (.trim [1, 5, 7, 10, 11, 12, 16, 17, 18]))
      (.block 2
       (.loop (some [1, 5, 7, 10, 11, 12, 16, 17, 18])
        Tryd.fn21_l0)))))
    (.seq (.reg Tryd.fn21_r14)
    (.trim [1, 5, 10, 11, 12])))))
def Tryd.fn21 : AFun :=
 ⟨46, [.tmp 4],
 (.seq (.seq (.reg Tryd.fn21_r0)
  (.trim [0, 1]))
 (.seq (.seq (.reg Tryd.fn21_r1)
  (.trim [0, 1, 5]))
 (.seq (.seq (.seq (.reg Tryd.fn21_r2)
   (.trim [1, 5, 10, 11, 12]))
  (.block 0
   (.loop (some [1, 5, 10, 11, 12])
    Tryd.fn21_l1)))
 (.seq (.seq (.reg Tryd.fn21_r15)
  (.trim [4]))
 .ret)))), false, .none⟩
/-! signalbench/report.column -/
def Tryd.fn22_r0 : List AIns :=
   [⟨(some 9), .ld1 (.t 4), .none⟩,
   ⟨(some 10), .ld1 (.t 5), .none⟩,
   ⟨(some 11), .call 30 [(.t 9), (.t 10)], .none⟩]
def Tryd.fn22_r1 : List AIns :=
   [⟨(some 4), .box 48 (.t 0), .none⟩,
    ⟨(some 5), .box 9 (.t 1), .none⟩,
    ⟨(some 6), .box 3 (.t 2), .none⟩,
    ⟨(some 7), .box 4 (.t 3), .none⟩]
def Tryd.fn22_r2 : List AIns :=
   [⟨(some 8), .mkf 40 [(.t 7), (.t 4), (.t 6), (.t 5)], .none⟩]
def Tryd.fn22 : AFun :=
 ⟨12, [],
 (.seq (.reg Tryd.fn22_r0)
 .skip), false, .some ((.seq (.seq (.reg Tryd.fn22_r1)
  .skip)
 (.reg Tryd.fn22_r2)), 8)⟩
/-! (*strings.Builder).WriteByte -/
def Tryd.fn23_r0 : List AIns :=
   [⟨(some 4), .mov (.c .nili), .none⟩]
def Tryd.fn23_r1 : List AIns :=
   [⟨(some 5), .mov (.t 0), .none⟩,
    ⟨(some 6), .call 42 [(.t 5)], .none⟩]
def Tryd.fn23_r2 : List AIns :=
   [⟨(some 7), .mov (.t 0), .none⟩,
     ⟨(some 8), .mov (.t 0), .none⟩,
     ⟨(some 9), .nlc (.t 8), .none⟩,
     ⟨(some 10), .fa 1 (.t 9), .none⟩,
     ⟨(some 11), .ld1 (.t 10), .none⟩,
     ⟨(some 12), .mov (.t 1), .none⟩,
     ⟨(some 13), .bsl 5 1 1 [(.int .u8 0)] [(0, 1, (.t 12))], .none⟩,
     ⟨(some 14), .app 5 1 1 (.t 11) (.t 13), .none⟩,
     ⟨(some 15), .nlc (.t 7), .none⟩,
     ⟨(some 16), .fa 1 (.t 15), .none⟩]
def Tryd.fn23_r3 : List AIns :=
   [⟨.none, .st 1 (.t 16) (.t 14), .none⟩]
def Tryd.fn23_r4 : List AIns :=
   [⟨(some 4), .mov (.c .nili), .none⟩]
def Tryd.fn23 : AFun :=
 ⟨17, [.tmp 4],
 (.seq (.seq (.reg Tryd.fn23_r0)
  (.trim [0, 1]))
 (.seq (.seq (.reg Tryd.fn23_r1)
  (.trim [0, 1]))
 (.seq (.seq (.seq (.reg Tryd.fn23_r2)
   (.trim [14, 16]))
  (.seq (.reg Tryd.fn23_r3)
  (.trim [])))
 (.seq (.seq (.reg Tryd.fn23_r4)
  (.trim [4]))
 .ret)))), false, .none⟩
/-! (*strings.Builder).String -/
def Tryd.fn24_r0 : List AIns :=
   [⟨(some 2), .mov (.c (.str [])), .none⟩]
def Tryd.fn24_r1a : List DIns :=
   ⟨⟨(some 9), .nlc (.t 8), .none⟩, [5], [7, 8, 9, 10, 11], 0⟩ ::
   ⟨⟨(some 10), .fa 1 (.t 9), .none⟩, [6, 5], [8, 9, 10, 11], 0⟩ ::
   ⟨⟨(some 11), .ld1 (.t 10), .none⟩, [7, 6, 5], [9, 10, 11], 1⟩ ::
   ⟨⟨(some 12), .lenl (.t 11), .none⟩, [8, 7, 6, 5], [10, 11], 0⟩ ::
   ⟨⟨(some 13), .ustr 5 (.t 7) (.t 12), .none⟩, [4, 9, 3, 2, 1, 0, 8, 7, 6, 5], [11], 2⟩ ::
   ⟨⟨(some 2), .mov (.t 13), .none⟩, [10, 0, 1, 2, 3, 4, 5, 6, 7, 8, 9], [], 0⟩ ::
   []
def Tryd.fn24_r1 : List DIns :=
   ⟨⟨(some 3), .mov (.t 0), .none⟩, [], [1, 2, 3, 4, 10, 11], 0⟩ ::
   ⟨⟨(some 4), .nlc (.t 3), .none⟩, [0], [2, 3, 4, 10, 11], 0⟩ ::
   ⟨⟨(some 5), .fa 1 (.t 4), .none⟩, [1, 0], [3, 4, 10, 11], 0⟩ ::
   ⟨⟨(some 6), .ld1 (.t 5), .none⟩, [2, 1, 0], [4, 10, 11], 1⟩ ::
   ⟨⟨(some 7), .usd (.t 6), .none⟩, [3, 2, 1, 0], [10, 11], 0⟩ ::
   ⟨⟨(some 8), .mov (.t 0), .none⟩, [], [6, 7, 8, 9, 10, 11], 0⟩ ::
   Tryd.fn24_r1a
def Tryd.fn24 : AFun :=
 ⟨14, [.tmp 2],
 (.seq (.seq (.reg Tryd.fn24_r0)
  (.trim [0]))
 (.seq (.seq (.regd Tryd.fn24_r1)
  (.trim [2]))
 .ret)), false, .none⟩
/-! signalbench/signalbenchref56.cell -/
def Tryd.fn25_r0 : List AIns :=
   [⟨(some 2), .mov (.c (.bool false)), .none⟩]
def Tryd.fn25_r1 : List AIns :=
   [⟨(some 4), .mov (.t 0), .none⟩,
      ⟨(some 5), .bin .eql (.t 4) (.c (.str [])), .none⟩,
      ⟨(some 6), .mov (.t 5), .none⟩,
      ⟨(some 7), .mov (.t 0), (some (6, false))⟩,
      ⟨(some 8), .lens (.t 7), (some (6, false))⟩,
      ⟨(some 9), .bin .gtr (.t 8) (.c (.int .i64 1048576)), (some (6, false))⟩,
      ⟨(some 10), .pick (.t 6) (.c (.bool true)) (.t 9), .none⟩,
      ⟨(some 11), .mov (.t 10), .none⟩,
      ⟨(some 12), .mov (.t 0), (some (11, false))⟩,
      ⟨(some 13), .ids (.t 12) (.c (.int .i64 0)), (some (11, false))⟩]
def Tryd.fn25_r2 : List AIns :=
   [⟨(some 14), .bin .eql (.t 13) (.c (.int .u8 32)), (some (11, false))⟩,
     ⟨(some 15), .pick (.t 11) (.c (.bool true)) (.t 14), .none⟩,
     ⟨(some 16), .mov (.t 15), .none⟩,
     ⟨(some 17), .mov (.t 0), (some (16, false))⟩,
     ⟨(some 18), .mov (.t 0), (some (16, false))⟩,
     ⟨(some 19), .lens (.t 18), (some (16, false))⟩,
     ⟨(some 20), .bin .sub (.t 19) (.c (.int .i64 1)), (some (16, false))⟩,
     ⟨(some 21), .ids (.t 17) (.t 20), (some (16, false))⟩,
     ⟨(some 22), .bin .eql (.t 21) (.c (.int .u8 32)), (some (16, false))⟩,
     ⟨(some 23), .pick (.t 16) (.c (.bool true)) (.t 22), .none⟩]
def Tryd.fn25_r3 : List AIns :=
   [⟨(some 2), .mov (.c (.bool false)), .none⟩]
def Tryd.fn25_r4 : List AIns :=
   [⟨(some 3), .mov (.c (.int .i64 0)), .none⟩]
def Tryd.fn25_r5 : List AIns :=
   [⟨(some 24), .mov (.t 3), .none⟩,
        ⟨(some 25), .mov (.t 0), .none⟩,
        ⟨(some 26), .lens (.t 25), .none⟩,
        ⟨(some 27), .bin .lss (.t 24) (.t 26), .none⟩]
def Tryd.fn25_r6 : List AIns :=
   [⟨(some 30), .mov (.t 0), .none⟩,
          ⟨(some 31), .mov (.t 3), .none⟩,
          ⟨(some 32), .ids (.t 30) (.t 31), .none⟩,
          ⟨(some 33), .bin .lss (.t 32) (.c (.int .u8 32)), .none⟩,
          ⟨(some 34), .mov (.t 33), .none⟩,
          ⟨(some 35), .mov (.t 0), (some (34, false))⟩,
          ⟨(some 36), .mov (.t 3), (some (34, false))⟩,
          ⟨(some 37), .ids (.t 35) (.t 36), (some (34, false))⟩,
          ⟨(some 38), .bin .gtr (.t 37) (.c (.int .u8 126)), (some (34, false))⟩,
          ⟨(some 39), .pick (.t 34) (.c (.bool true)) (.t 38), .none⟩]
def Tryd.fn25_r7 : List AIns :=
   [⟨(some 40), .mov (.t 39), .none⟩,
          ⟨(some 41), .mov (.t 3), (some (40, false))⟩,
          ⟨(some 42), .bin .gtr (.t 41) (.c (.int .i64 0)), (some (40, false))⟩,
          ⟨(some 43), .mov (.t 42), (some (40, false))⟩,
          ⟨(some 44), .mov (.t 0), (some (43, true))⟩,
          ⟨(some 45), .mov (.t 3), (some (43, true))⟩,
          ⟨(some 46), .ids (.t 44) (.t 45), (some (43, true))⟩,
          ⟨(some 47), .bin .eql (.t 46) (.c (.int .u8 32)), (some (43, true))⟩,
          ⟨(some 48), .pick (.t 43) (.t 47) (.c (.bool false)), (some (40, false))⟩,
          ⟨(some 49), .mov (.t 48), (some (40, false))⟩]
def Tryd.fn25_r8 : List AIns :=
   [⟨(some 50), .mov (.t 0), (some (49, true))⟩,
         ⟨(some 51), .mov (.t 3), (some (49, true))⟩,
         ⟨(some 52), .bin .sub (.t 51) (.c (.int .i64 1)), (some (49, true))⟩,
         ⟨(some 53), .ids (.t 50) (.t 52), (some (49, true))⟩,
         ⟨(some 54), .bin .eql (.t 53) (.c (.int .u8 32)), (some (49, true))⟩,
         ⟨(some 55), .pick (.t 49) (.t 54) (.c (.bool false)), (some (40, false))⟩,
         ⟨(some 56), .pick (.t 40) (.c (.bool true)) (.t 55), .none⟩]
def Tryd.fn25_r9 : List AIns :=
   [⟨(some 2), .mov (.c (.bool false)), .none⟩]
def Tryd.fn25_r10 : List AIns :=
   [⟨(some 28), .mov (.t 3), .none⟩,
      ⟨(some 29), .bin .add (.t 28) (.c (.int .i64 1)), .none⟩,
      ⟨(some 3), .mov (.t 29), .none⟩]
def Tryd.fn25_r11 : List AIns :=
   [⟨(some 2), .mov (.c (.bool true)), .none⟩]
def Tryd.fn25_l0 : ACode :=
 (.seq (.seq (.seq (.reg Tryd.fn25_r5)
      (.trim [0, 3, 27]))
     (.cond (.t 27)
      .skip
      (.exit 0)))
    (.seq (.block 1
      (.seq (.seq (.seq (.reg Tryd.fn25_r6)
        (.trim [0, 3, 39]))
       (.seq (.seq (.reg Tryd.fn25_r7)
        (.trim [0, 3, 40, 49]))
       (.seq (.reg Tryd.fn25_r8)
       (.trim [0, 3, 56]))))
      (.cond (.t 56)
       (.seq (.seq (.reg Tryd.fn25_r9)
        (.trim [2]))
       .ret)
       .skip)))
    (.seq (.reg Tryd.fn25_r10)
    (.trim [0, 3]))))
def Tryd.fn25 : AFun :=
 ⟨57, [.tmp 2],
 (.seq (.seq (.reg Tryd.fn25_r0)
  (.trim [0]))
 (.seq (.seq (.seq (.seq (.reg Tryd.fn25_r1)
    (.trim [0, 11, 13]))
   (.seq (.reg Tryd.fn25_r2)
   (.trim [0, 23])))
  (.cond (.t 23)
   (.seq (.seq (.reg Tryd.fn25_r3)
    (.trim [2]))
   .ret)
   .skip))
 (.seq (.seq (.seq (.reg Tryd.fn25_r4)
   (.trim [0, 3]))
  (.block 0
   (.loop (some [0, 3])
    Tryd.fn25_l0)))
 (.seq (.seq (.reg Tryd.fn25_r11)
  (.trim [2]))
 .ret)))), true, .none⟩
/-! signalbench/signalbenchref56.widths -/
def Tryd.fn26_r0 : List AIns :=
   [⟨(some 2), .mov (.c .nils), .none⟩]
def Tryd.fn26_r1 : List AIns :=
   [⟨(some 6), .mov (.t 0), .none⟩,
    ⟨(some 7), .ia 1 (.t 6) (.c (.int .i64 0)), .none⟩,
    ⟨(some 8), .ld1 (.t 7), .none⟩,
    ⟨(some 9), .lenl (.t 8), .none⟩,
    ⟨(some 10), .mks 3 1 8 [(.int .i64 0)] (.t 9) (.t 9), .none⟩,
    ⟨(some 3), .mov (.t 10), .none⟩]
def Tryd.fn26_r2 : List AIns :=
   [⟨(some 4), .mov (.c (.int .i64 0)), .none⟩]
def Tryd.fn26_r3 : List AIns :=
   [⟨(some 11), .mov (.t 4), .none⟩,
        ⟨(some 12), .mov (.t 0), .none⟩,
        ⟨(some 13), .lenl (.t 12), .none⟩,
        ⟨(some 14), .bin .lss (.t 11) (.t 13), .none⟩]
def Tryd.fn26_r4 : List AIns :=
   [⟨(some 5), .mov (.c (.int .i64 0)), .none⟩]
def Tryd.fn26_r5 : List AIns :=
   [⟨(some 17), .mov (.t 5), .none⟩,
            ⟨(some 18), .mov (.t 3), .none⟩,
            ⟨(some 19), .lenl (.t 18), .none⟩,
            ⟨(some 20), .bin .lss (.t 17) (.t 19), .none⟩]
def Tryd.fn26_r6b : List DIns :=
   ⟨⟨(some 35), .bin .gtr (.t 30) (.t 34), .none⟩, [7, 11, 6, 5, 3, 4, 2, 0, 1, 10, 8, 9], [], 0⟩ ::
   []
def Tryd.fn26_r6a : List DIns :=
   ⟨⟨(some 29), .ld1 (.t 28), .none⟩, [5, 3, 4, 2, 0, 1], [7, 12], 1⟩ ::
   ⟨⟨(some 30), .lens (.t 29), .none⟩, [6, 5, 3, 4, 2, 0, 1], [12], 0⟩ ::
   ⟨⟨(some 31), .mov (.t 3), .none⟩, [], [10, 11, 12], 0⟩ ::
   ⟨⟨(some 32), .mov (.t 5), .none⟩, [], [10, 11, 12], 0⟩ ::
   ⟨⟨(some 33), .ia 1 (.t 31) (.t 32), .none⟩, [8, 9], [11, 12], 0⟩ ::
   ⟨⟨(some 34), .ld1 (.t 33), .none⟩, [10, 8, 9], [12], 1⟩ ::
   Tryd.fn26_r6b
def Tryd.fn26_r6 : List DIns :=
   ⟨⟨(some 23), .mov (.t 0), .none⟩, [], [2, 3, 5, 6, 7, 12], 0⟩ ::
   ⟨⟨(some 24), .mov (.t 4), .none⟩, [], [2, 3, 5, 6, 7, 12], 0⟩ ::
   ⟨⟨(some 25), .ia 1 (.t 23) (.t 24), .none⟩, [0, 1], [3, 5, 6, 7, 12], 0⟩ ::
   ⟨⟨(some 26), .ld1 (.t 25), .none⟩, [2, 0, 1], [5, 6, 7, 12], 1⟩ ::
   ⟨⟨(some 27), .mov (.t 5), .none⟩, [], [5, 6, 7, 12], 0⟩ ::
   ⟨⟨(some 28), .ia 1 (.t 26) (.t 27), .none⟩, [3, 4, 2, 0, 1], [6, 7, 12], 0⟩ ::
   Tryd.fn26_r6a
def Tryd.fn26_r7 : List AIns :=
   [⟨(some 36), .mov (.t 3), .none⟩,
              ⟨(some 37), .mov (.t 5), .none⟩,
              ⟨(some 38), .mov (.t 0), .none⟩,
              ⟨(some 39), .mov (.t 4), .none⟩,
              ⟨(some 40), .ia 1 (.t 38) (.t 39), .none⟩,
              ⟨(some 41), .ld1 (.t 40), .none⟩,
              ⟨(some 42), .mov (.t 5), .none⟩,
              ⟨(some 43), .ia 1 (.t 41) (.t 42), .none⟩,
              ⟨(some 44), .ld1 (.t 43), .none⟩,
              ⟨(some 45), .lens (.t 44), .none⟩]
def Tryd.fn26_r8 : List AIns :=
   [⟨(some 46), .ia 1 (.t 36) (.t 37), .none⟩,
             ⟨.none, .st 1 (.t 46) (.t 45), .none⟩]
def Tryd.fn26_r9 : List AIns :=
   [⟨(some 21), .mov (.t 5), .none⟩,
          ⟨(some 22), .bin .add (.t 21) (.c (.int .i64 1)), .none⟩,
          ⟨(some 5), .mov (.t 22), .none⟩]
def Tryd.fn26_r10 : List AIns :=
   [⟨(some 15), .mov (.t 4), .none⟩,
      ⟨(some 16), .bin .add (.t 15) (.c (.int .i64 1)), .none⟩,
      ⟨(some 4), .mov (.t 16), .none⟩]
def Tryd.fn26_r11 : List AIns :=
   [⟨(some 47), .mov (.t 3), .none⟩,
    ⟨(some 2), .mov (.t 47), .none⟩]
def Tryd.fn26_l0 : ACode :=
 (.seq (.seq (.seq (.reg Tryd.fn26_r5)
          (.trim [0, 3, 4, 5, 20]))
         (.cond (.t 20)
          .skip
          (.exit 2)))
        (.seq (.block 3
          (.seq (.seq (.regd Tryd.fn26_r6)
           (.trim [0, 3, 4, 5, 35]))
          (.cond (.t 35)
           (.seq (.seq (.reg Tryd.fn26_r7)
            (.trim [0, 3, 4, 5, 36, 37, 45]))
           (.seq (.reg Tryd.fn26_r8)
           (.trim [0, 3, 4, 5])))
           .skip)))
        (.seq (.reg Tryd.fn26_r9)
        (.trim [0, 3, 4, 5]))))
def Tryd.fn26_l1 : ACode :=
 (.seq (.seq (.seq (.reg Tryd.fn26_r3)
      (.trim [0, 3, 4, 14]))
     (.cond (.t 14)
      .skip
      (.exit 0)))
    (.seq (.block 1
      (.seq (.seq (.reg Tryd.fn26_r4)
       (.trim [0, 3, 4, 5]))
      (.block 2
       (.loop (some [0, 3, 4, 5])
        Tryd.fn26_l0))))
    (.seq (.reg Tryd.fn26_r10)
    (.trim [0, 3, 4]))))
def Tryd.fn26 : AFun :=
 ⟨48, [.tmp 2],
 (.seq (.seq (.reg Tryd.fn26_r0)
  (.trim [0]))
 (.seq (.seq (.reg Tryd.fn26_r1)
  (.trim [0, 3]))
 (.seq (.seq (.seq (.reg Tryd.fn26_r2)
   (.trim [0, 3, 4]))
  (.block 0
   (.loop (some [0, 3, 4])
    Tryd.fn26_l1)))
 (.seq (.seq (.reg Tryd.fn26_r11)
  (.trim [2]))
 .ret)))), false, .none⟩
/-! signalbench/signalbenchref56.blanks -/
def Tryd.fn27_r0 : List AIns :=
   [⟨(some 2), .mov (.c (.str [])), .none⟩]
def Tryd.fn27_r1 : List AIns :=
   [⟨(some 5), .bsl 5 1 0 [(.int .u8 0)] [], .none⟩,
    ⟨(some 3), .mov (.t 5), .none⟩]
def Tryd.fn27_r2 : List AIns :=
   [⟨(some 4), .mov (.c (.int .i64 0)), .none⟩]
def Tryd.fn27_r3 : List AIns :=
   [⟨(some 6), .mov (.t 4), .none⟩,
        ⟨(some 7), .mov (.t 0), .none⟩,
        ⟨(some 8), .bin .lss (.t 6) (.t 7), .none⟩]
def Tryd.fn27_r4 : List AIns :=
   [⟨(some 11), .mov (.t 3), .none⟩,
        ⟨(some 12), .bsl 5 1 1 [(.int .u8 0)] [(0, 1, (.c (.int .u8 32)))], .none⟩,
        ⟨(some 13), .app 5 1 1 (.t 11) (.t 12), .none⟩,
        ⟨(some 3), .mov (.t 13), .none⟩]
def Tryd.fn27_r5 : List AIns :=
   [⟨(some 9), .mov (.t 4), .none⟩,
      ⟨(some 10), .bin .add (.t 9) (.c (.int .i64 1)), .none⟩,
      ⟨(some 4), .mov (.t 10), .none⟩]
def Tryd.fn27_r6 : List AIns :=
   [⟨(some 14), .mov (.t 3), .none⟩,
    ⟨(some 15), .b2s (.t 14), .none⟩,
    ⟨(some 2), .mov (.t 15), .none⟩]
def Tryd.fn27_l0 : ACode :=
 (.seq (.seq (.seq (.reg Tryd.fn27_r3)
      (.trim [0, 3, 4, 8]))
     (.cond (.t 8)
      .skip
      (.exit 0)))
    (.seq (.block 1
      (.seq (.reg Tryd.fn27_r4)
      (.trim [0, 3, 4])))
    (.seq (.reg Tryd.fn27_r5)
    (.trim [0, 3, 4]))))
def Tryd.fn27 : AFun :=
 ⟨16, [.tmp 2],
 (.seq (.seq (.reg Tryd.fn27_r0)
  (.trim [0]))
 (.seq (.seq (.reg Tryd.fn27_r1)
  (.trim [0, 3]))
 (.seq (.seq (.seq (.reg Tryd.fn27_r2)
   (.trim [0, 3, 4]))
  (.block 0
   (.loop (some [0, 3, 4])
    Tryd.fn27_l0)))
 (.seq (.seq (.reg Tryd.fn27_r6)
  (.trim [2]))
 .ret)))), true, .none⟩
/-! signalbench/report.fits -/
def Tryd.fn28_r0 : List AIns :=
   [⟨(some 1), .box 40 (.t 0), .none⟩,
    ⟨(some 2), .mov (.c (.bool false)), .none⟩]
def Tryd.fn28_r1 : List AIns :=
   [⟨(some 3), .fa 0 (.t 1), .none⟩,
     ⟨(some 4), .ld1 (.t 3), .none⟩,
     ⟨(some 5), .bin .geq (.t 4) (.c (.int .i64 0)), .none⟩,
     ⟨(some 6), .mov (.t 5), .none⟩,
     ⟨(some 7), .fa 0 (.t 1), (some (6, true))⟩,
     ⟨(some 8), .ld1 (.t 7), (some (6, true))⟩,
     ⟨(some 9), .bin .lss (.t 8) (.c (.int .i64 16)), (some (6, true))⟩,
     ⟨(some 10), .pick (.t 6) (.t 9) (.c (.bool false)), .none⟩,
     ⟨(some 11), .mov (.t 10), .none⟩,
     ⟨(some 12), .fa 1 (.t 1), (some (11, true))⟩]
def Tryd.fn28_r2 : List AIns :=
   [⟨(some 13), .ld1 (.t 12), (some (11, true))⟩,
     ⟨(some 14), .bin .geq (.t 13) (.c (.int .i64 0)), (some (11, true))⟩,
     ⟨(some 15), .pick (.t 11) (.t 14) (.c (.bool false)), .none⟩,
     ⟨(some 16), .mov (.t 15), .none⟩,
     ⟨(some 17), .fa 1 (.t 1), (some (16, true))⟩,
     ⟨(some 18), .ld1 (.t 17), (some (16, true))⟩,
     ⟨(some 19), .bin .leq (.t 18) (.c (.int .i64 1099511627776)), (some (16, true))⟩,
     ⟨(some 20), .pick (.t 16) (.t 19) (.c (.bool false)), .none⟩,
     ⟨(some 21), .mov (.t 20), .none⟩,
     ⟨(some 22), .fa 2 (.t 1), (some (21, true))⟩]
def Tryd.fn28_r3 : List AIns :=
   [⟨(some 23), .ldn 7 (.t 22), (some (21, true))⟩,
    ⟨(some 24), .call 43 [(.t 23)], (some (21, true))⟩,
    ⟨(some 25), .pick (.t 21) (.t 24) (.c (.bool false)), .none⟩,
    ⟨(some 2), .mov (.t 25), .none⟩]
def Tryd.fn28 : AFun :=
 ⟨26, [.tmp 2],
 (.seq (.seq (.reg Tryd.fn28_r0)
  (.trim [1]))
 (.seq (.seq (.seq (.reg Tryd.fn28_r1)
   (.trim [1, 11, 12]))
  (.seq (.seq (.reg Tryd.fn28_r2)
   (.trim [21, 22]))
  (.seq (.reg Tryd.fn28_r3)
  (.trim [2]))))
 .ret)), true, .none⟩
/-! signalbench/event.Line -/
def Tryd.fn29_r0 : List AIns :=
   [⟨(some 1), .box 38 (.t 0), .none⟩,
    ⟨(some 2), .mov (.c (.str [])), .none⟩,
    ⟨(some 3), .mov (.c (.int .i64 0)), .none⟩]
def Tryd.fn29_r1 : List AIns :=
   [⟨(some 7), .ldn 7 (.t 1), .none⟩,
     ⟨(some 8), .call 43 [(.t 7)], .none⟩,
     ⟨(some 9), .un .not (.t 8), .none⟩]
def Tryd.fn29_r2 : List AIns :=
   [⟨(some 2), .mov (.c (.str [])), .none⟩,
      ⟨(some 3), .mov (.c (.int .i64 1)), .none⟩]
def Tryd.fn29_r3 : List DIns :=
   [⟨⟨(some 10), .call 44 [], .none⟩, [], [4, 5, 6, 7], 1⟩,
    ⟨⟨(some 11), .fa 0 (.t 1), .none⟩, [], [2, 3, 4, 5, 6, 7], 0⟩,
    ⟨⟨(some 12), .ld1 (.t 11), .none⟩, [1], [3, 4, 5, 6, 7], 1⟩,
    ⟨⟨(some 13), .bin .sub (.t 12) (.c (.int .i64 1)), .none⟩, [2, 1], [4, 5, 6, 7], 0⟩,
    ⟨⟨(some 14), .ia 1 (.t 10) (.t 13), .none⟩, [0, 3, 2, 1], [5, 6, 7], 0⟩,
    ⟨⟨(some 15), .ld1 (.t 14), .none⟩, [4, 0, 3, 2, 1], [6, 7], 2⟩,
    ⟨⟨(some 16), .bsl 9 1 1 [(.str [])] [(0, 1, (.t 15))], .none⟩, [5, 4, 0, 3, 2, 1], [7], 2⟩,
    ⟨⟨(some 4), .mov (.t 16), .none⟩, [6, 0, 1, 2, 3, 4, 5], [], 0⟩]
def Tryd.fn29_r4 : List AIns :=
   [⟨(some 17), .fa 1 (.t 1), .none⟩,
      ⟨(some 18), .ld1 (.t 17), .none⟩,
      ⟨(some 19), .fa 2 (.t 1), .none⟩,
      ⟨(some 20), .ld1 (.t 19), .none⟩,
      ⟨(some 21), .fa 3 (.t 1), .none⟩,
      ⟨(some 22), .ld1 (.t 21), .none⟩,
      ⟨(some 23), .fa 4 (.t 1), .none⟩,
      ⟨(some 24), .ld1 (.t 23), .none⟩,
      ⟨(some 25), .fa 6 (.t 1), .none⟩,
      ⟨(some 26), .ld1 (.t 25), .none⟩]
def Tryd.fn29_r5 : List AIns :=
   [⟨(some 27), .bsl 3 1 5 [(.int .i64 0)] [(0, 1, (.t 18)), (1, 1, (.t 20)), (2, 1, (.t 22)), (3, 1, (.t 24)), (4, 1, (.t 26))], .none⟩,
     ⟨(some 28), .lenl (.t 27), .none⟩,
     ⟨(some 29), .mov (.c (.int .i64 0)), .none⟩]
def Tryd.fn29_r6 : List AIns :=
   [⟨(some 30), .bin .lss (.t 29) (.t 28), .none⟩]
def Tryd.fn29_r7 : List AIns :=
   [⟨(some 31), .ia 1 (.t 27) (.t 29), .none⟩,
         ⟨(some 32), .ld1 (.t 31), .none⟩,
         ⟨(some 6), .mov (.t 32), .none⟩]
def Tryd.fn29_r8 : List AIns :=
   [⟨(some 33), .mov (.t 4), .none⟩,
        ⟨(some 34), .mov (.t 6), .none⟩,
        ⟨(some 35), .call 31 [(.t 34)], .none⟩,
        ⟨(some 36), .bsl 9 1 1 [(.str [])] [(0, 1, (.t 35))], .none⟩,
        ⟨(some 37), .app 9 1 16 (.t 33) (.t 36), .none⟩,
        ⟨(some 4), .mov (.t 37), .none⟩]
def Tryd.fn29_r9 : List AIns :=
   [⟨(some 38), .bin .add (.t 29) (.c (.int .i64 1)), .none⟩,
      ⟨(some 29), .mov (.t 38), .none⟩]
def Tryd.fn29_r10 : List AIns :=
   [⟨(some 39), .mov (.t 4), .none⟩,
    ⟨(some 40), .fa 5 (.t 1), .none⟩,
    ⟨(some 41), .ld1 (.t 40), .none⟩,
    ⟨(some 42), .call 46 [(.t 41)], .none⟩,
    ⟨(some 43), .bsl 9 1 1 [(.str [])] [(0, 1, (.t 42))], .none⟩,
    ⟨(some 44), .app 9 1 16 (.t 39) (.t 43), .none⟩,
    ⟨(some 45), .call 45 [(.t 44), (.c (.str [32]))], .none⟩,
    ⟨(some 2), .mov (.t 45), .none⟩,
    ⟨(some 3), .mov (.c (.int .i64 0)), .none⟩]
def Tryd.fn29_l0 : ACode :=
 (.seq (.seq (.reg Tryd.fn29_r6)
     (.trim [1, 4, 27, 28, 29, 30]))
    (.seq (.cond (.t 30)
      .skip
      (.exit 0))
    (.seq (.block 1
      (.seq (.seq (.reg Tryd.fn29_r7)
       (.trim [1, 4, 6, 27, 28, 29]))
      (.seq (.reg Tryd.fn29_r8)
      (.trim [1, 4, 27, 28, 29]))))
    (.seq (.reg Tryd.fn29_r9)
    (.trim [1, 4, 27, 28, 29])))))
def Tryd.fn29 : AFun :=
 ⟨46, [.tmp 2, .tmp 3],
 (.seq (.seq (.reg Tryd.fn29_r0)
  (.trim [1]))
 (.seq (.seq (.seq (.reg Tryd.fn29_r1)
   (.trim [1, 9]))
  (.cond (.t 9)
   (.seq (.seq (.reg Tryd.fn29_r2)
    (.trim [2, 3]))
   .ret)
   .skip))
 (.seq (.seq (.regd Tryd.fn29_r3)
  (.trim [1, 4]))
 (.seq (.seq (.seq (.seq (.reg Tryd.fn29_r4)
    (.trim [1, 4, 18, 20, 22, 24, 26]))
   (.seq (.reg Tryd.fn29_r5)
   (.trim [1, 4, 27, 28, 29])))
  (.block 0
   (.loop (some [1, 4, 27, 28, 29])
    Tryd.fn29_l0)))
 (.seq (.seq (.reg Tryd.fn29_r10)
  (.trim [2, 3]))
 .ret))))), true, .none⟩
/-! (*strings.Builder).WriteString -/
def Tryd.fn30_r0 : List AIns :=
   [⟨(some 4), .mov (.c (.int .i64 0)), .none⟩,
    ⟨(some 5), .mov (.c .nili), .none⟩]
def Tryd.fn30_r1 : List AIns :=
   [⟨(some 6), .mov (.t 0), .none⟩,
    ⟨(some 7), .call 42 [(.t 6)], .none⟩]
def Tryd.fn30_r2 : List AIns :=
   [⟨(some 8), .mov (.t 0), .none⟩,
    ⟨(some 9), .mov (.t 0), .none⟩,
    ⟨(some 10), .nlc (.t 9), .none⟩,
    ⟨(some 11), .fa 1 (.t 10), .none⟩,
    ⟨(some 12), .ld1 (.t 11), .none⟩,
    ⟨(some 13), .mov (.t 1), .none⟩,
    ⟨(some 14), .app 5 1 1 (.t 12) (.t 13), .none⟩,
    ⟨(some 15), .nlc (.t 8), .none⟩,
    ⟨(some 16), .fa 1 (.t 15), .none⟩,
    ⟨.none, .st 1 (.t 16) (.t 14), .none⟩]
def Tryd.fn30_r3 : List AIns :=
   [⟨(some 17), .mov (.t 1), .none⟩,
    ⟨(some 18), .lens (.t 17), .none⟩,
    ⟨(some 4), .mov (.t 18), .none⟩,
    ⟨(some 5), .mov (.c .nili), .none⟩]
def Tryd.fn30 : AFun :=
 ⟨19, [.tmp 4, .tmp 5],
 (.seq (.seq (.reg Tryd.fn30_r0)
  (.trim [0, 1]))
 (.seq (.seq (.reg Tryd.fn30_r1)
  (.trim [0, 1]))
 (.seq (.seq (.reg Tryd.fn30_r2)
  (.trim [1]))
 (.seq (.seq (.reg Tryd.fn30_r3)
  (.trim [4, 5]))
 .ret)))), false, .none⟩
/-! (*strings.Builder).Len -/
def Tryd.fn32_r0 : List AIns :=
   [⟨(some 2), .mov (.c (.int .i64 0)), .none⟩]
def Tryd.fn32_r1 : List AIns :=
   [⟨(some 3), .mov (.t 0), .none⟩,
    ⟨(some 4), .nlc (.t 3), .none⟩,
    ⟨(some 5), .fa 1 (.t 4), .none⟩,
    ⟨(some 6), .ld1 (.t 5), .none⟩,
    ⟨(some 7), .lenl (.t 6), .none⟩,
    ⟨(some 2), .mov (.t 7), .none⟩]
def Tryd.fn32 : AFun :=
 ⟨8, [.tmp 2],
 (.seq (.seq (.reg Tryd.fn32_r0)
  (.trim [0]))
 (.seq (.seq (.reg Tryd.fn32_r1)
  (.trim [2]))
 .ret)), false, .none⟩
/-! signalbench/signalbenchref56.can -/
def Tryd.fn33_r0 : List AIns :=
   [⟨(some 1), .box 40 (.t 0), .none⟩,
    ⟨(some 2), .mov (.c (.bool false)), .none⟩]
def Tryd.fn33_r1 : List AIns :=
   [⟨(some 3), .fa 0 (.t 1), .none⟩,
     ⟨(some 4), .ld1 (.t 3), .none⟩,
     ⟨(some 5), .bin .geq (.t 4) (.c (.int .i64 0)), .none⟩,
     ⟨(some 6), .mov (.t 5), .none⟩,
     ⟨(some 7), .fa 0 (.t 1), (some (6, true))⟩,
     ⟨(some 8), .ld1 (.t 7), (some (6, true))⟩,
     ⟨(some 9), .bin .lss (.t 8) (.c (.int .i64 16)), (some (6, true))⟩,
     ⟨(some 10), .pick (.t 6) (.t 9) (.c (.bool false)), .none⟩,
     ⟨(some 11), .mov (.t 10), .none⟩,
     ⟨(some 12), .fa 1 (.t 1), (some (11, true))⟩]
def Tryd.fn33_r2 : List AIns :=
   [⟨(some 13), .ld1 (.t 12), (some (11, true))⟩,
     ⟨(some 14), .bin .geq (.t 13) (.c (.int .i64 0)), (some (11, true))⟩,
     ⟨(some 15), .pick (.t 11) (.t 14) (.c (.bool false)), .none⟩,
     ⟨(some 16), .mov (.t 15), .none⟩,
     ⟨(some 17), .fa 1 (.t 1), (some (16, true))⟩,
     ⟨(some 18), .ld1 (.t 17), (some (16, true))⟩,
     ⟨(some 19), .bin .leq (.t 18) (.c (.int .i64 1099511627776)), (some (16, true))⟩,
     ⟨(some 20), .pick (.t 16) (.t 19) (.c (.bool false)), .none⟩,
     ⟨(some 21), .mov (.t 20), .none⟩,
     ⟨(some 22), .fa 2 (.t 1), (some (21, true))⟩]
def Tryd.fn33_r3 : List AIns :=
   [⟨(some 23), .ldn 7 (.t 22), (some (21, true))⟩,
    ⟨(some 24), .call 48 [(.t 23)], (some (21, true))⟩,
    ⟨(some 25), .pick (.t 21) (.t 24) (.c (.bool false)), .none⟩,
    ⟨(some 2), .mov (.t 25), .none⟩]
def Tryd.fn33 : AFun :=
 ⟨26, [.tmp 2],
 (.seq (.seq (.reg Tryd.fn33_r0)
  (.trim [1]))
 (.seq (.seq (.seq (.reg Tryd.fn33_r1)
   (.trim [1, 11, 12]))
  (.seq (.seq (.reg Tryd.fn33_r2)
   (.trim [21, 22]))
  (.seq (.reg Tryd.fn33_r3)
  (.trim [2]))))
 .ret)), true, .none⟩
/-! signalbench/signalbenchref56.line -/
def Tryd.fn34_r0 : List AIns :=
   [⟨(some 1), .box 40 (.t 0), .none⟩,
    ⟨(some 2), .mov (.c (.str [])), .none⟩]
def Tryd.fn34_r1 : List AIns :=
   [⟨(some 6), .fa 2 (.t 1), .none⟩,
    ⟨(some 7), .ldn 7 (.t 6), .none⟩,
    ⟨(some 8), .call 49 [(.t 7)], .none⟩,
    ⟨(some 5), .mov (.t 8), .none⟩,
    ⟨(some 9), .ext 0 (.t 5), .none⟩,
    ⟨(some 10), .ext 1 (.t 5), .none⟩,
    ⟨(some 3), .mov (.t 9), .none⟩,
    ⟨(some 4), .mov (.t 10), .none⟩]
def Tryd.fn34_r2b : List DIns :=
   ⟨⟨(some 2), .mov (.t 22), .none⟩, [11, 6, 0, 1, 2, 3, 4, 5, 7, 8, 9, 10], [], 0⟩ ::
   []
def Tryd.fn34_r2a : List DIns :=
   ⟨⟨(some 17), .call 50 [(.t 16)], .none⟩, [5, 2, 4, 1, 0], [7, 8, 10, 11, 12], 2⟩ ::
   ⟨⟨(some 18), .bin .add (.t 14) (.t 17), .none⟩, [3, 6, 2, 1, 0, 5, 4], [8, 10, 11, 12], 0⟩ ::
   ⟨⟨(some 19), .bin .add (.t 18) (.c (.str [32])), .none⟩, [7, 3, 6, 2, 1, 0, 5, 4], [10, 11, 12], 0⟩ ::
   ⟨⟨(some 20), .mov (.t 3), .none⟩, [], [10, 11, 12], 0⟩ ::
   ⟨⟨(some 21), .bin .add (.t 19) (.t 20), .none⟩, [8, 9, 7, 3, 6, 2, 1, 0, 5, 4], [11, 12], 0⟩ ::
   ⟨⟨(some 22), .bin .add (.t 21) (.c (.str [10])), .none⟩, [10, 8, 9, 7, 3, 6, 2, 1, 0, 5, 4], [12], 0⟩ ::
   Tryd.fn34_r2b
def Tryd.fn34_r2 : List DIns :=
   ⟨⟨(some 11), .fa 0 (.t 1), .none⟩, [], [1, 2, 3, 6, 7, 8, 10, 11, 12], 0⟩ ::
   ⟨⟨(some 12), .ld1 (.t 11), .none⟩, [0], [2, 3, 6, 7, 8, 10, 11, 12], 1⟩ ::
   ⟨⟨(some 13), .call 50 [(.t 12)], .none⟩, [1, 0], [3, 6, 7, 8, 10, 11, 12], 1⟩ ::
   ⟨⟨(some 14), .bin .add (.t 13) (.c (.str [32])), .none⟩, [2, 1, 0], [7, 8, 10, 11, 12], 0⟩ ::
   ⟨⟨(some 15), .fa 1 (.t 1), .none⟩, [], [5, 6, 7, 8, 10, 11, 12], 0⟩ ::
   ⟨⟨(some 16), .ld1 (.t 15), .none⟩, [4], [6, 7, 8, 10, 11, 12], 1⟩ ::
   Tryd.fn34_r2a
def Tryd.fn34 : AFun :=
 ⟨23, [.tmp 2],
 (.seq (.seq (.reg Tryd.fn34_r0)
  (.trim [1]))
 (.seq (.seq (.reg Tryd.fn34_r1)
  (.trim [1, 3]))
 (.seq (.seq (.regd Tryd.fn34_r2)
  (.trim [2]))
 .ret))), true, .none⟩
/-! signalbench/report.cells -/
def Tryd.fn36_r0 : List AIns :=
   [⟨(some 2), .mov (.c .nils), .none⟩]
def Tryd.fn36_r1 : List AIns :=
   [⟨(some 3), .mov (.c .nils), .none⟩]
def Tryd.fn36_r2 : List AIns :=
   [⟨(some 5), .mov (.t 0), .none⟩,
       ⟨(some 6), .call 52 [(.t 5), (.c (.str [32, 32]))], .none⟩,
       ⟨(some 4), .mov (.t 6), .none⟩]
def Tryd.fn36_r3 : List AIns :=
   [⟨(some 7), .mov (.t 4), .none⟩,
        ⟨(some 8), .bin .lss (.t 7) (.c (.int .i64 0)), .none⟩]
def Tryd.fn36_r4 : List AIns :=
   [⟨(some 9), .mov (.t 3), .none⟩,
         ⟨(some 10), .mov (.t 0), .none⟩,
         ⟨(some 11), .bsl 9 1 1 [(.str [])] [(0, 1, (.t 10))], .none⟩,
         ⟨(some 12), .app 9 1 16 (.t 9) (.t 11), .none⟩,
         ⟨(some 2), .mov (.t 12), .none⟩]
def Tryd.fn36_r5 : List AIns :=
   [⟨(some 13), .mov (.t 3), .none⟩,
       ⟨(some 14), .mov (.t 0), .none⟩,
       ⟨(some 15), .mov (.t 4), .none⟩,
       ⟨(some 16), .sub (.t 14) .none (some (.t 15)), .none⟩,
       ⟨(some 17), .bsl 9 1 1 [(.str [])] [(0, 1, (.t 16))], .none⟩,
       ⟨(some 18), .app 9 1 16 (.t 13) (.t 17), .none⟩,
       ⟨(some 3), .mov (.t 18), .none⟩]
def Tryd.fn36_r6 : List AIns :=
   [⟨(some 19), .mov (.t 0), .none⟩,
      ⟨(some 20), .mov (.t 4), .none⟩,
      ⟨(some 21), .sub (.t 19) (some (.t 20)) .none, .none⟩,
      ⟨(some 22), .call 53 [(.t 21), (.c (.str [32]))], .none⟩,
      ⟨(some 0), .mov (.t 22), .none⟩]
def Tryd.fn36_l0 : ACode :=
 (.block 1
    (.seq (.seq (.reg Tryd.fn36_r2)
     (.trim [0, 3, 4]))
    (.seq (.seq (.seq (.reg Tryd.fn36_r3)
      (.trim [0, 3, 4, 8]))
     (.cond (.t 8)
      (.seq (.seq (.reg Tryd.fn36_r4)
       (.trim [2]))
      .ret)
      .skip))
    (.seq (.seq (.reg Tryd.fn36_r5)
     (.trim [0, 3, 4]))
    (.seq (.reg Tryd.fn36_r6)
    (.trim [0, 3]))))))
def Tryd.fn36 : AFun :=
 ⟨23, [.tmp 2],
 (.seq (.seq (.reg Tryd.fn36_r0)
  (.trim [0]))
 (.seq (.seq (.reg Tryd.fn36_r1)
  (.trim [0, 3]))
 (.block 0
  (.loop (some [0, 3])
   Tryd.fn36_l0)))), true, .none⟩
/-! signalbench/signalbenchref56.lines -/
def Tryd.fn37_r0 : List AIns :=
   [⟨(some 2), .mov (.c .nils), .none⟩,
    ⟨(some 3), .mov (.c (.bool false)), .none⟩]
def Tryd.fn37_r1 : List AIns :=
   [⟨(some 7), .bsl 9 1 0 [(.str [])] [], .none⟩,
    ⟨(some 4), .mov (.t 7), .none⟩]
def Tryd.fn37_r2 : List AIns :=
   [⟨(some 5), .mov (.c (.int .i64 0)), .none⟩]
def Tryd.fn37_r3 : List AIns :=
   [⟨(some 6), .mov (.c (.int .i64 0)), .none⟩]
def Tryd.fn37_r4 : List AIns :=
   [⟨(some 8), .mov (.t 6), .none⟩,
        ⟨(some 9), .mov (.t 0), .none⟩,
        ⟨(some 10), .lens (.t 9), .none⟩,
        ⟨(some 11), .bin .lss (.t 8) (.t 10), .none⟩]
def Tryd.fn37_r5 : List AIns :=
   [⟨(some 14), .mov (.t 0), .none⟩,
         ⟨(some 15), .mov (.t 6), .none⟩,
         ⟨(some 16), .ids (.t 14) (.t 15), .none⟩,
         ⟨(some 17), .bin .eql (.t 16) (.c (.int .u8 10)), .none⟩]
def Tryd.fn37_r6 : List AIns :=
   [⟨(some 18), .mov (.t 4), .none⟩,
          ⟨(some 19), .mov (.t 0), .none⟩,
          ⟨(some 20), .mov (.t 5), .none⟩,
          ⟨(some 21), .mov (.t 6), .none⟩,
          ⟨(some 22), .sub (.t 19) (some (.t 20)) (some (.t 21)), .none⟩,
          ⟨(some 23), .bsl 9 1 1 [(.str [])] [(0, 1, (.t 22))], .none⟩,
          ⟨(some 24), .app 9 1 16 (.t 18) (.t 23), .none⟩,
          ⟨(some 4), .mov (.t 24), .none⟩]
def Tryd.fn37_r7 : List AIns :=
   [⟨(some 25), .mov (.t 6), .none⟩,
         ⟨(some 26), .bin .add (.t 25) (.c (.int .i64 1)), .none⟩,
         ⟨(some 5), .mov (.t 26), .none⟩]
def Tryd.fn37_r8 : List AIns :=
   [⟨(some 12), .mov (.t 6), .none⟩,
      ⟨(some 13), .bin .add (.t 12) (.c (.int .i64 1)), .none⟩,
      ⟨(some 6), .mov (.t 13), .none⟩]
def Tryd.fn37_r9 : List AIns :=
   [⟨(some 27), .mov (.t 5), .none⟩,
     ⟨(some 28), .mov (.t 0), .none⟩,
     ⟨(some 29), .lens (.t 28), .none⟩,
     ⟨(some 30), .bin .lss (.t 27) (.t 29), .none⟩]
def Tryd.fn37_r10 : List AIns :=
   [⟨(some 31), .mov (.t 4), .none⟩,
      ⟨(some 32), .mov (.t 0), .none⟩,
      ⟨(some 33), .mov (.t 5), .none⟩,
      ⟨(some 34), .sub (.t 32) (some (.t 33)) .none, .none⟩,
      ⟨(some 35), .bsl 9 1 1 [(.str [])] [(0, 1, (.t 34))], .none⟩,
      ⟨(some 36), .app 9 1 16 (.t 31) (.t 35), .none⟩,
      ⟨(some 2), .mov (.t 36), .none⟩,
      ⟨(some 3), .mov (.c (.bool false)), .none⟩]
def Tryd.fn37_r11 : List AIns :=
   [⟨(some 37), .mov (.t 4), .none⟩,
    ⟨(some 2), .mov (.t 37), .none⟩,
    ⟨(some 3), .mov (.c (.bool true)), .none⟩]
def Tryd.fn37_l0 : ACode :=
 (.seq (.seq (.seq (.reg Tryd.fn37_r4)
      (.trim [0, 4, 5, 6, 11]))
     (.cond (.t 11)
      .skip
      (.exit 0)))
    (.seq (.block 1
      (.seq (.seq (.reg Tryd.fn37_r5)
       (.trim [0, 4, 5, 6, 17]))
      (.cond (.t 17)
       (.seq (.seq (.reg Tryd.fn37_r6)
        (.trim [0, 4, 6]))
       (.seq (.reg Tryd.fn37_r7)
       (.trim [0, 4, 5, 6])))
       .skip)))
    (.seq (.reg Tryd.fn37_r8)
    (.trim [0, 4, 5, 6]))))
def Tryd.fn37 : AFun :=
 ⟨38, [.tmp 2, .tmp 3],
 (.seq (.seq (.reg Tryd.fn37_r0)
  (.trim [0]))
 (.seq (.seq (.reg Tryd.fn37_r1)
  (.trim [0, 4]))
 (.seq (.seq (.reg Tryd.fn37_r2)
  (.trim [0, 4, 5]))
 (.seq (.seq (.seq (.reg Tryd.fn37_r3)
   (.trim [0, 4, 5, 6]))
  (.block 0
   (.loop (some [0, 4, 5, 6])
    Tryd.fn37_l0)))
 (.seq (.seq (.seq (.reg Tryd.fn37_r9)
   (.trim [0, 4, 5, 30]))
  (.cond (.t 30)
   (.seq (.seq (.reg Tryd.fn37_r10)
    (.trim [2, 3]))
   .ret)
   .skip))
 (.seq (.seq (.reg Tryd.fn37_r11)
  (.trim [2, 3]))
 .ret)))))), true, .none⟩
/-! signalbench/signalbenchref56.cells -/
def Tryd.fn38_r0 : List AIns :=
   [⟨(some 2), .mov (.c .nils), .none⟩]
def Tryd.fn38_r1 : List AIns :=
   [⟨(some 6), .bsl 9 1 0 [(.str [])] [], .none⟩,
    ⟨(some 3), .mov (.t 6), .none⟩]
def Tryd.fn38_r2 : List AIns :=
   [⟨(some 4), .mov (.c (.int .i64 0)), .none⟩]
def Tryd.fn38_r3 : List AIns :=
   [⟨(some 5), .mov (.c (.int .i64 0)), .none⟩]
def Tryd.fn38_r4 : List AIns :=
   [⟨(some 7), .mov (.t 5), .none⟩,
        ⟨(some 8), .mov (.t 0), .none⟩,
        ⟨(some 9), .lens (.t 8), .none⟩,
        ⟨(some 10), .bin .lss (.t 7) (.t 9), .none⟩]
def Tryd.fn38_r5 : List AIns :=
   [⟨(some 11), .mov (.t 0), .none⟩,
          ⟨(some 12), .mov (.t 5), .none⟩,
          ⟨(some 13), .ids (.t 11) (.t 12), .none⟩,
          ⟨(some 14), .bin .neq (.t 13) (.c (.int .u8 32)), .none⟩,
          ⟨(some 15), .mov (.t 14), .none⟩,
          ⟨(some 16), .mov (.t 5), (some (15, false))⟩,
          ⟨(some 17), .bin .add (.t 16) (.c (.int .i64 1)), (some (15, false))⟩,
          ⟨(some 18), .mov (.t 0), (some (15, false))⟩,
          ⟨(some 19), .lens (.t 18), (some (15, false))⟩,
          ⟨(some 20), .bin .eql (.t 17) (.t 19), (some (15, false))⟩]
def Tryd.fn38_r6 : List AIns :=
   [⟨(some 21), .pick (.t 15) (.c (.bool true)) (.t 20), .none⟩,
         ⟨(some 22), .mov (.t 21), .none⟩,
         ⟨(some 23), .mov (.t 0), (some (22, false))⟩,
         ⟨(some 24), .mov (.t 5), (some (22, false))⟩,
         ⟨(some 25), .bin .add (.t 24) (.c (.int .i64 1)), (some (22, false))⟩,
         ⟨(some 26), .ids (.t 23) (.t 25), (some (22, false))⟩,
         ⟨(some 27), .bin .neq (.t 26) (.c (.int .u8 32)), (some (22, false))⟩,
         ⟨(some 28), .pick (.t 22) (.c (.bool true)) (.t 27), .none⟩]
def Tryd.fn38_r7 : List AIns :=
   [⟨(some 29), .mov (.t 5), .none⟩,
          ⟨(some 30), .bin .add (.t 29) (.c (.int .i64 1)), .none⟩,
          ⟨(some 5), .mov (.t 30), .none⟩]
def Tryd.fn38_r8 : List AIns :=
   [⟨(some 31), .mov (.t 3), .none⟩,
        ⟨(some 32), .mov (.t 0), .none⟩,
        ⟨(some 33), .mov (.t 4), .none⟩,
        ⟨(some 34), .mov (.t 5), .none⟩,
        ⟨(some 35), .sub (.t 32) (some (.t 33)) (some (.t 34)), .none⟩,
        ⟨(some 36), .bsl 9 1 1 [(.str [])] [(0, 1, (.t 35))], .none⟩,
        ⟨(some 37), .app 9 1 16 (.t 31) (.t 36), .none⟩,
        ⟨(some 3), .mov (.t 37), .none⟩]
def Tryd.fn38_r9 : List AIns :=
   [⟨(some 38), .mov (.t 5), .none⟩,
            ⟨(some 39), .mov (.t 0), .none⟩,
            ⟨(some 40), .lens (.t 39), .none⟩,
            ⟨(some 41), .bin .lss (.t 38) (.t 40), .none⟩,
            ⟨(some 42), .mov (.t 41), .none⟩,
            ⟨(some 43), .mov (.t 0), (some (42, true))⟩,
            ⟨(some 44), .mov (.t 5), (some (42, true))⟩,
            ⟨(some 45), .ids (.t 43) (.t 44), (some (42, true))⟩,
            ⟨(some 46), .bin .eql (.t 45) (.c (.int .u8 32)), (some (42, true))⟩,
            ⟨(some 47), .pick (.t 42) (.t 46) (.c (.bool false)), .none⟩]
def Tryd.fn38_r10 : List AIns :=
   [⟨(some 48), .mov (.t 5), .none⟩,
           ⟨(some 49), .bin .add (.t 48) (.c (.int .i64 1)), .none⟩,
           ⟨(some 5), .mov (.t 49), .none⟩]
def Tryd.fn38_r11 : List AIns :=
   [⟨(some 50), .mov (.t 5), .none⟩,
       ⟨(some 4), .mov (.t 50), .none⟩]
def Tryd.fn38_r12 : List AIns :=
   [⟨(some 51), .mov (.t 3), .none⟩,
    ⟨(some 52), .mov (.t 0), .none⟩,
    ⟨(some 53), .mov (.t 4), .none⟩,
    ⟨(some 54), .sub (.t 52) (some (.t 53)) .none, .none⟩,
    ⟨(some 55), .bsl 9 1 1 [(.str [])] [(0, 1, (.t 54))], .none⟩,
    ⟨(some 56), .app 9 1 16 (.t 51) (.t 55), .none⟩,
    ⟨(some 2), .mov (.t 56), .none⟩]
def Tryd.fn38_l0 : ACode :=
 (.seq (.seq (.seq (.reg Tryd.fn38_r9)
          (.trim [0, 3, 5, 47]))
         (.cond (.t 47)
          .skip
          (.exit 2)))
        (.block 3
         (.seq (.reg Tryd.fn38_r10)
         (.trim [0, 3, 5]))))
def Tryd.fn38_l1 : ACode :=
 (.seq (.seq (.seq (.reg Tryd.fn38_r4)
      (.trim [0, 3, 4, 5, 10]))
     (.cond (.t 10)
      .skip
      (.exit 0)))
    (.block 1
     (.seq (.seq (.seq (.seq (.reg Tryd.fn38_r5)
        (.trim [0, 3, 4, 5, 15, 20]))
       (.seq (.reg Tryd.fn38_r6)
       (.trim [0, 3, 4, 5, 28])))
      (.cond (.t 28)
       (.seq (.seq (.reg Tryd.fn38_r7)
        (.trim [0, 3, 4, 5]))
       (.exit 1))
       .skip))
     (.seq (.seq (.reg Tryd.fn38_r8)
      (.trim [0, 3, 5]))
     (.seq (.block 2
       (.loop (some [0, 3, 5])
        Tryd.fn38_l0))
     (.seq (.reg Tryd.fn38_r11)
     (.trim [0, 3, 4, 5])))))))
def Tryd.fn38 : AFun :=
 ⟨57, [.tmp 2],
 (.seq (.seq (.reg Tryd.fn38_r0)
  (.trim [0]))
 (.seq (.seq (.reg Tryd.fn38_r1)
  (.trim [0, 3]))
 (.seq (.seq (.reg Tryd.fn38_r2)
  (.trim [0, 3, 4]))
 (.seq (.seq (.reg Tryd.fn38_r3)
  (.trim [0, 3, 4, 5]))
 (.seq (.block 0
   (.loop (some [0, 3, 4, 5])
    Tryd.fn38_l1))
 (.seq (.seq (.reg Tryd.fn38_r12)
  (.trim [2]))
 .ret)))))), true, .none⟩
/-! signalbench/report.cell -/
def Tryd.fn39_r0 : List AIns :=
   [⟨(some 2), .mov (.c (.bool false)), .none⟩]
def Tryd.fn39_r1 : List AIns :=
   [⟨(some 4), .mov (.t 0), .none⟩,
      ⟨(some 5), .bin .eql (.t 4) (.c (.str [])), .none⟩,
      ⟨(some 6), .mov (.t 5), .none⟩,
      ⟨(some 7), .mov (.t 0), (some (6, false))⟩,
      ⟨(some 8), .lens (.t 7), (some (6, false))⟩,
      ⟨(some 9), .bin .gtr (.t 8) (.c (.int .i64 1048576)), (some (6, false))⟩,
      ⟨(some 10), .pick (.t 6) (.c (.bool true)) (.t 9), .none⟩,
      ⟨(some 11), .mov (.t 10), .none⟩,
      ⟨(some 12), .mov (.t 0), (some (11, false))⟩,
      ⟨(some 13), .ids (.t 12) (.c (.int .i64 0)), (some (11, false))⟩]
def Tryd.fn39_r2 : List AIns :=
   [⟨(some 14), .bin .eql (.t 13) (.c (.int .u8 32)), (some (11, false))⟩,
      ⟨(some 15), .pick (.t 11) (.c (.bool true)) (.t 14), .none⟩,
      ⟨(some 16), .mov (.t 15), .none⟩,
      ⟨(some 17), .mov (.t 0), (some (16, false))⟩,
      ⟨(some 18), .mov (.t 0), (some (16, false))⟩,
      ⟨(some 19), .lens (.t 18), (some (16, false))⟩,
      ⟨(some 20), .bin .sub (.t 19) (.c (.int .i64 1)), (some (16, false))⟩,
      ⟨(some 21), .ids (.t 17) (.t 20), (some (16, false))⟩,
      ⟨(some 22), .bin .eql (.t 21) (.c (.int .u8 32)), (some (16, false))⟩,
      ⟨(some 23), .pick (.t 16) (.c (.bool true)) (.t 22), .none⟩]
def Tryd.fn39_r3 : List AIns :=
   [⟨(some 24), .mov (.t 23), .none⟩,
     ⟨(some 25), .mov (.t 0), (some (24, false))⟩,
     ⟨(some 26), .call 54 [(.t 25), (.c (.str [32, 32]))], (some (24, false))⟩,
     ⟨(some 27), .pick (.t 24) (.c (.bool true)) (.t 26), .none⟩]
def Tryd.fn39_r4 : List AIns :=
   [⟨(some 2), .mov (.c (.bool false)), .none⟩]
def Tryd.fn39_r5 : List AIns :=
   [⟨(some 28), .mov (.t 0), .none⟩,
     ⟨(some 29), .lens (.t 28), .none⟩,
     ⟨(some 30), .mov (.c (.int .i64 0)), .none⟩]
def Tryd.fn39_r6 : List AIns :=
   [⟨(some 31), .bin .lss (.t 30) (.t 29), .none⟩]
def Tryd.fn39_r7 : List AIns :=
   [⟨(some 32), .mov (.t 30), .none⟩,
         ⟨(some 3), .mov (.t 32), .none⟩]
def Tryd.fn39_r8 : List AIns :=
   [⟨(some 33), .mov (.t 0), .none⟩,
         ⟨(some 34), .mov (.t 3), .none⟩,
         ⟨(some 35), .ids (.t 33) (.t 34), .none⟩,
         ⟨(some 36), .bin .lss (.t 35) (.c (.int .u8 32)), .none⟩,
         ⟨(some 37), .mov (.t 36), .none⟩,
         ⟨(some 38), .mov (.t 0), (some (37, false))⟩,
         ⟨(some 39), .mov (.t 3), (some (37, false))⟩,
         ⟨(some 40), .ids (.t 38) (.t 39), (some (37, false))⟩,
         ⟨(some 41), .bin .gtr (.t 40) (.c (.int .u8 126)), (some (37, false))⟩,
         ⟨(some 42), .pick (.t 37) (.c (.bool true)) (.t 41), .none⟩]
def Tryd.fn39_r9 : List AIns :=
   [⟨(some 2), .mov (.c (.bool false)), .none⟩]
def Tryd.fn39_r10 : List AIns :=
   [⟨(some 43), .bin .add (.t 30) (.c (.int .i64 1)), .none⟩,
      ⟨(some 30), .mov (.t 43), .none⟩]
def Tryd.fn39_r11 : List AIns :=
   [⟨(some 2), .mov (.c (.bool true)), .none⟩]
def Tryd.fn39_l0 : ACode :=
 (.seq (.seq (.reg Tryd.fn39_r6)
     (.trim [0, 29, 30, 31]))
    (.seq (.cond (.t 31)
      .skip
      (.exit 0))
    (.seq (.block 1
      (.seq (.seq (.reg Tryd.fn39_r7)
       (.trim [0, 3, 29, 30]))
      (.seq (.seq (.reg Tryd.fn39_r8)
       (.trim [0, 29, 30, 42]))
      (.cond (.t 42)
       (.seq (.seq (.reg Tryd.fn39_r9)
        (.trim [2]))
       .ret)
       .skip))))
    (.seq (.reg Tryd.fn39_r10)
    (.trim [0, 29, 30])))))
def Tryd.fn39 : AFun :=
 ⟨44, [.tmp 2],
 (.seq (.seq (.reg Tryd.fn39_r0)
  (.trim [0]))
 (.seq (.seq (.seq (.seq (.reg Tryd.fn39_r1)
    (.trim [0, 11, 13]))
   (.seq (.seq (.reg Tryd.fn39_r2)
    (.trim [0, 23]))
   (.seq (.reg Tryd.fn39_r3)
   (.trim [0, 27]))))
  (.cond (.t 27)
   (.seq (.seq (.reg Tryd.fn39_r4)
    (.trim [2]))
   .ret)
   .skip))
 (.seq (.seq (.seq (.reg Tryd.fn39_r5)
   (.trim [0, 29, 30]))
  (.block 0
   (.loop (some [0, 29, 30])
    Tryd.fn39_l0)))
 (.seq (.seq (.reg Tryd.fn39_r11)
  (.trim [2]))
 .ret)))), true, .none⟩
/-! signalbench/report.column$1 -/
def Tryd.fn40_r0 : List AIns :=
   [⟨(some 4), .ld1 (.t 0), .none⟩,
    ⟨(some 5), .un .not (.t 4), .none⟩]
def Tryd.fn40_r1 : List DIns :=
   [⟨⟨(some 6), .ld1 (.t 1), .none⟩, [], [7], 1⟩,
    ⟨⟨(some 7), .ld1 (.t 2), .none⟩, [], [4, 5, 6, 7], 1⟩,
    ⟨⟨(some 8), .ld1 (.t 3), .none⟩, [], [3, 4, 5, 6, 7], 1⟩,
    ⟨⟨(some 9), .lens (.t 8), .none⟩, [2], [4, 5, 6, 7], 0⟩,
    ⟨⟨(some 10), .bin .sub (.t 7) (.t 9), .none⟩, [1, 3, 2], [5, 6, 7], 0⟩,
    ⟨⟨(some 11), .bin .add (.t 10) (.c (.int .i64 2)), .none⟩, [4, 1, 3, 2], [6, 7], 0⟩,
    ⟨⟨(some 12), .call 41 [(.c (.str [32])), (.t 11)], .none⟩, [5, 4, 1, 3, 2], [7], 1⟩,
    ⟨⟨(some 13), .call 30 [(.t 6), (.t 12)], .none⟩, [0, 6, 5, 4, 1, 3, 2], [], 2⟩]
def Tryd.fn40 : AFun :=
 ⟨14, [],
 (.seq (.seq (.reg Tryd.fn40_r0)
  (.trim [1, 2, 3, 5]))
 (.cond (.t 5)
  (.seq (.regd Tryd.fn40_r1)
  (.trim []))
  .skip)), false, .none⟩
/-! (*strings.Builder).copyCheck -/
def Tryd.fn42_r0 : List AIns :=
   [⟨(some 2), .mov (.t 0), .none⟩,
    ⟨(some 3), .nlc (.t 2), .none⟩,
    ⟨(some 4), .fa 0 (.t 3), .none⟩,
    ⟨(some 5), .ld1 (.t 4), .none⟩,
    ⟨(some 6), .eqv false true .ptr (.t 5) (.c .nilp), .none⟩]
def Tryd.fn42_r1 : List AIns :=
   [⟨(some 7), .mov (.t 0), .none⟩,
    ⟨(some 8), .mov (.t 0), .none⟩,
    ⟨(some 9), .tous (.t 8), .none⟩,
    ⟨(some 10), .call 58 [(.t 9)], .none⟩,
    ⟨(some 11), .frus 51 2 (.t 10), .none⟩,
    ⟨(some 12), .nlc (.t 7), .none⟩,
    ⟨(some 13), .fa 0 (.t 12), .none⟩,
    ⟨.none, .st 1 (.t 13) (.t 11), .none⟩]
def Tryd.fn42_r2 : List AIns :=
   [⟨(some 14), .mov (.t 0), .none⟩,
     ⟨(some 15), .nlc (.t 14), .none⟩,
     ⟨(some 16), .fa 0 (.t 15), .none⟩,
     ⟨(some 17), .ld1 (.t 16), .none⟩,
     ⟨(some 18), .mov (.t 0), .none⟩,
     ⟨(some 19), .eqv true false .ptr (.t 17) (.t 18), .none⟩]
def Tryd.fn42_r3 : List AIns :=
   [⟨.none, .ext 0 (.c .nilp), .none⟩]
def Tryd.fn42 : AFun :=
 ⟨20, [],
 (.seq (.seq (.reg Tryd.fn42_r0)
  (.trim [0, 6]))
 (.cond (.t 6)
  (.seq (.reg Tryd.fn42_r1)
  (.trim []))
  (.seq (.seq (.reg Tryd.fn42_r2)
   (.trim [19]))
  (.cond (.t 19)
   (.seq (.reg Tryd.fn42_r3)
   (.trim []))
   .skip)))), false, .none⟩
/-! signalbench/event.Valid -/
def Tryd.fn43_r0 : List AIns :=
   [⟨(some 1), .box 38 (.t 0), .none⟩,
    ⟨(some 2), .mov (.c (.bool false)), .none⟩]
def Tryd.fn43_r1 : List AIns :=
   [⟨(some 4), .fa 0 (.t 1), .none⟩,
      ⟨(some 5), .ld1 (.t 4), .none⟩,
      ⟨(some 6), .bin .lss (.t 5) (.c (.int .i64 1)), .none⟩,
      ⟨(some 7), .mov (.t 6), .none⟩,
      ⟨(some 8), .fa 0 (.t 1), (some (7, false))⟩,
      ⟨(some 9), .ld1 (.t 8), (some (7, false))⟩,
      ⟨(some 10), .bin .gtr (.t 9) (.c (.int .i64 8)), (some (7, false))⟩,
      ⟨(some 11), .pick (.t 7) (.c (.bool true)) (.t 10), .none⟩,
      ⟨(some 3), .mov (.t 11), .none⟩]
def Tryd.fn43_r2 : List AIns :=
   [⟨(some 2), .mov (.c (.bool false)), .none⟩]
def Tryd.fn43_r3 : List AIns :=
   [⟨(some 13), .fa 1 (.t 1), .none⟩,
        ⟨(some 14), .ld1 (.t 13), .none⟩,
        ⟨(some 15), .bin .lss (.t 14) (.c (.int .i64 0)), .none⟩,
        ⟨(some 16), .mov (.t 15), .none⟩,
        ⟨(some 17), .fa 1 (.t 1), (some (16, false))⟩,
        ⟨(some 18), .ld1 (.t 17), (some (16, false))⟩,
        ⟨(some 19), .fa 2 (.t 1), (some (16, false))⟩,
        ⟨(some 20), .ld1 (.t 19), (some (16, false))⟩,
        ⟨(some 21), .bin .gtr (.t 18) (.t 20), (some (16, false))⟩,
        ⟨(some 22), .pick (.t 16) (.c (.bool true)) (.t 21), .none⟩]
def Tryd.fn43_r4 : List AIns :=
   [⟨(some 23), .mov (.t 22), .none⟩,
       ⟨(some 24), .fa 2 (.t 1), (some (23, false))⟩,
       ⟨(some 25), .ld1 (.t 24), (some (23, false))⟩,
       ⟨(some 26), .bin .gtr (.t 25) (.c (.int .i64 1099511627776)), (some (23, false))⟩,
       ⟨(some 27), .pick (.t 23) (.c (.bool true)) (.t 26), .none⟩,
       ⟨(some 12), .mov (.t 27), .none⟩]
def Tryd.fn43_r5 : List AIns :=
   [⟨(some 2), .mov (.c (.bool false)), .none⟩]
def Tryd.fn43_r6 : List AIns :=
   [⟨(some 29), .fa 3 (.t 1), .none⟩,
         ⟨(some 30), .ld1 (.t 29), .none⟩,
         ⟨(some 31), .bin .lss (.t 30) (.c (.int .i64 (-9007199254740992))), .none⟩,
         ⟨(some 32), .mov (.t 31), .none⟩,
         ⟨(some 33), .fa 3 (.t 1), (some (32, false))⟩,
         ⟨(some 34), .ld1 (.t 33), (some (32, false))⟩,
         ⟨(some 35), .bin .gtr (.t 34) (.c (.int .i64 9007199254740992)), (some (32, false))⟩,
         ⟨(some 36), .pick (.t 32) (.c (.bool true)) (.t 35), .none⟩,
         ⟨(some 37), .mov (.t 36), .none⟩,
         ⟨(some 38), .fa 4 (.t 1), (some (37, false))⟩]
def Tryd.fn43_r7 : List AIns :=
   [⟨(some 39), .ld1 (.t 38), (some (37, false))⟩,
        ⟨(some 40), .bin .lss (.t 39) (.c (.int .i64 (-9007199254740992))), (some (37, false))⟩,
        ⟨(some 41), .pick (.t 37) (.c (.bool true)) (.t 40), .none⟩,
        ⟨(some 42), .mov (.t 41), .none⟩,
        ⟨(some 43), .fa 4 (.t 1), (some (42, false))⟩,
        ⟨(some 44), .ld1 (.t 43), (some (42, false))⟩,
        ⟨(some 45), .bin .gtr (.t 44) (.c (.int .i64 9007199254740992)), (some (42, false))⟩,
        ⟨(some 46), .pick (.t 42) (.c (.bool true)) (.t 45), .none⟩,
        ⟨(some 28), .mov (.t 46), .none⟩]
def Tryd.fn43_r8 : List AIns :=
   [⟨(some 2), .mov (.c (.bool false)), .none⟩]
def Tryd.fn43_r9 : List AIns :=
   [⟨(some 47), .fa 5 (.t 1), .none⟩,
     ⟨(some 48), .ld1 (.t 47), .none⟩,
     ⟨(some 49), .lens (.t 48), .none⟩,
     ⟨(some 50), .bin .leq (.t 49) (.c (.int .i64 4096)), .none⟩,
     ⟨(some 51), .mov (.t 50), .none⟩,
     ⟨(some 52), .fa 6 (.t 1), (some (51, true))⟩,
     ⟨(some 53), .ld1 (.t 52), (some (51, true))⟩,
     ⟨(some 54), .bin .geq (.t 53) (.c (.int .i64 0)), (some (51, true))⟩,
     ⟨(some 55), .pick (.t 51) (.t 54) (.c (.bool false)), .none⟩,
     ⟨(some 56), .mov (.t 55), .none⟩]
def Tryd.fn43_r10 : List AIns :=
   [⟨(some 57), .fa 6 (.t 1), (some (56, true))⟩,
    ⟨(some 58), .ld1 (.t 57), (some (56, true))⟩,
    ⟨(some 59), .bin .leq (.t 58) (.c (.int .i64 12)), (some (56, true))⟩,
    ⟨(some 60), .pick (.t 56) (.t 59) (.c (.bool false)), .none⟩,
    ⟨(some 2), .mov (.t 60), .none⟩]
def Tryd.fn43 : AFun :=
 ⟨61, [.tmp 2],
 (.seq (.seq (.reg Tryd.fn43_r0)
  (.trim [1]))
 (.seq (.block 0
   (.seq (.seq (.reg Tryd.fn43_r1)
    (.trim [1, 3]))
   (.cond (.t 3)
    (.seq (.seq (.reg Tryd.fn43_r2)
     (.trim [2]))
    .ret)
    (.seq (.seq (.seq (.reg Tryd.fn43_r3)
      (.trim [1, 22]))
     (.seq (.reg Tryd.fn43_r4)
     (.trim [1, 12])))
    (.cond (.t 12)
     (.seq (.seq (.reg Tryd.fn43_r5)
      (.trim [2]))
     .ret)
     (.seq (.seq (.seq (.reg Tryd.fn43_r6)
       (.trim [1, 37, 38]))
      (.seq (.reg Tryd.fn43_r7)
      (.trim [1, 28])))
     (.cond (.t 28)
      (.seq (.seq (.reg Tryd.fn43_r8)
       (.trim [2]))
      .ret)
      .skip)))))))
 (.seq (.seq (.seq (.reg Tryd.fn43_r9)
   (.trim [1, 56]))
  (.seq (.reg Tryd.fn43_r10)
  (.trim [2])))
 .ret))), true, .none⟩
/-! signalbench/event.kinds -/
def Tryd.fn44_r0 : List AIns :=
   [⟨(some 0), .mov (.c .nils), .none⟩]
def Tryd.fn44_r1 : List AIns :=
   [⟨(some 1), .bsl 9 1 8 [(.str [])] [(0, 1, (.c (.str [108, 101, 118, 101, 108]))), (1, 1, (.c (.str [98, 105, 116]))), (2, 1, (.c (.str [98, 121, 116, 101]))), (3, 1, (.c (.str [109, 97, 114, 107]))), (4, 1, (.c (.str [102, 114, 97, 109, 101]))), (5, 1, (.c (.str [112, 97, 99, 107, 101, 116]))), (6, 1, (.c (.str [99, 111, 109, 109, 97, 110, 100]))), (7, 1, (.c (.str [112, 97, 105, 114])))], .none⟩,
    ⟨(some 0), .mov (.t 1), .none⟩]
def Tryd.fn44 : AFun :=
 ⟨2, [.tmp 0],
 (.seq (.seq (.reg Tryd.fn44_r0)
  (.trim []))
 (.seq (.seq (.reg Tryd.fn44_r1)
  (.trim [0]))
 .ret)), true, .none⟩
/-! signalbench/lex.Quote -/
def Tryd.fn46_r0 : List AIns :=
   [⟨(some 2), .mov (.c (.str [])), .none⟩]
def Tryd.fn46_r1 : List AIns :=
   [⟨(some 3), .alloc 51 [.nilp, .nils], .none⟩]
def Tryd.fn46_r2 : List AIns :=
   [⟨(some 6), .call 23 [(.t 3), (.c (.int .u8 34))], .none⟩]
def Tryd.fn46_r3 : List AIns :=
   [⟨(some 7), .mov (.t 0), .none⟩,
     ⟨(some 8), .lens (.t 7), .none⟩,
     ⟨(some 9), .mov (.c (.int .i64 0)), .none⟩]
def Tryd.fn46_r4 : List AIns :=
   [⟨(some 10), .bin .lss (.t 9) (.t 8), .none⟩]
def Tryd.fn46_r5 : List AIns :=
   [⟨(some 11), .mov (.t 9), .none⟩,
         ⟨(some 4), .mov (.t 11), .none⟩]
def Tryd.fn46_r6 : List AIns :=
   [⟨(some 12), .mov (.t 0), .none⟩,
         ⟨(some 13), .mov (.t 4), .none⟩,
         ⟨(some 14), .ids (.t 12) (.t 13), .none⟩,
         ⟨(some 5), .mov (.t 14), .none⟩]
def Tryd.fn46_r7 : List AIns :=
   [⟨(some 25), .mov (.t 5), .none⟩,
          ⟨(some 26), .conv .i32 (.t 25), .none⟩,
          ⟨(some 27), .call 59 [(.t 26)], .none⟩,
          ⟨(some 24), .mov (.t 27), .none⟩]
def Tryd.fn46_r8 : List AIns :=
   [⟨(some 28), .mov (.t 5), .none⟩,
          ⟨(some 29), .call 23 [(.t 3), (.t 28)], .none⟩]
def Tryd.fn46_r9 : List AIns :=
   [⟨(some 31), .mov (.t 5), .none⟩,
           ⟨(some 32), .bin .eql (.t 31) (.c (.int .u8 34)), .none⟩,
           ⟨(some 33), .mov (.t 32), .none⟩,
           ⟨(some 34), .mov (.t 5), (some (33, false))⟩,
           ⟨(some 35), .bin .eql (.t 34) (.c (.int .u8 92)), (some (33, false))⟩,
           ⟨(some 36), .pick (.t 33) (.c (.bool true)) (.t 35), .none⟩,
           ⟨(some 30), .mov (.t 36), .none⟩]
def Tryd.fn46_r10 : List AIns :=
   [⟨(some 37), .call 23 [(.t 3), (.c (.int .u8 92))], .none⟩]
def Tryd.fn46_r11 : List AIns :=
   [⟨(some 38), .mov (.t 5), .none⟩,
           ⟨(some 39), .call 23 [(.t 3), (.t 38)], .none⟩]
def Tryd.fn46_r12 : List AIns :=
   [⟨(some 41), .mov (.t 5), .none⟩,
            ⟨(some 42), .bin .eql (.t 41) (.c (.int .u8 10)), .none⟩,
            ⟨(some 40), .mov (.t 42), .none⟩]
def Tryd.fn46_r13 : List AIns :=
   [⟨(some 43), .call 30 [(.t 3), (.c (.str [92, 110]))], .none⟩]
def Tryd.fn46_r14 : List AIns :=
   [⟨(some 15), .call 30 [(.t 3), (.c (.str [92, 120]))], .none⟩]
def Tryd.fn46_r15 : List AIns :=
   [⟨(some 16), .mov (.t 5), .none⟩,
             ⟨(some 17), .bin .shr (.t 16) (.c (.int .u64 4)), .none⟩,
             ⟨(some 18), .ids (.c (.str [48, 49, 50, 51, 52, 53, 54, 55, 56, 57, 97, 98, 99, 100, 101, 102])) (.t 17), .none⟩,
             ⟨(some 19), .call 23 [(.t 3), (.t 18)], .none⟩]
def Tryd.fn46_r16 : List AIns :=
   [⟨(some 20), .mov (.t 5), .none⟩,
            ⟨(some 21), .bin .and (.t 20) (.c (.int .u8 15)), .none⟩,
            ⟨(some 22), .ids (.c (.str [48, 49, 50, 51, 52, 53, 54, 55, 56, 57, 97, 98, 99, 100, 101, 102])) (.t 21), .none⟩,
            ⟨(some 23), .call 23 [(.t 3), (.t 22)], .none⟩]
def Tryd.fn46_r17 : List AIns :=
   [⟨(some 44), .bin .add (.t 9) (.c (.int .i64 1)), .none⟩,
      ⟨(some 9), .mov (.t 44), .none⟩]
def Tryd.fn46_r18 : List AIns :=
   [⟨(some 45), .call 23 [(.t 3), (.c (.int .u8 34))], .none⟩]
def Tryd.fn46_r19 : List AIns :=
   [⟨(some 46), .call 24 [(.t 3)], .none⟩,
    ⟨(some 2), .mov (.t 46), .none⟩]
def Tryd.fn46_l0 : ACode :=
 (.seq (.seq (.reg Tryd.fn46_r4)
     (.trim [0, 3, 8, 9, 10]))
    (.seq (.cond (.t 10)
      .skip
      (.exit 0))
    (.seq (.block 1
      (.seq (.seq (.reg Tryd.fn46_r5)
       (.trim [0, 3, 4, 8, 9]))
      (.seq (.seq (.reg Tryd.fn46_r6)
       (.trim [0, 3, 5, 8, 9]))
      (.block 2
       (.seq (.seq (.reg Tryd.fn46_r7)
        (.trim [0, 3, 5, 8, 9, 24]))
       (.cond (.t 24)
        (.seq (.reg Tryd.fn46_r8)
        (.trim [0, 3, 8, 9]))
        (.seq (.seq (.reg Tryd.fn46_r9)
         (.trim [0, 3, 5, 8, 9, 30]))
        (.cond (.t 30)
         (.seq (.seq (.reg Tryd.fn46_r10)
          (.trim [0, 3, 5, 8, 9]))
         (.seq (.reg Tryd.fn46_r11)
         (.trim [0, 3, 8, 9])))
         (.seq (.seq (.reg Tryd.fn46_r12)
          (.trim [0, 3, 5, 8, 9, 40]))
         (.cond (.t 40)
          (.seq (.reg Tryd.fn46_r13)
          (.trim [0, 3, 8, 9]))
          (.seq (.seq (.reg Tryd.fn46_r14)
           (.trim [0, 3, 5, 8, 9]))
          (.seq (.seq (.reg Tryd.fn46_r15)
           (.trim [0, 3, 5, 8, 9]))
          (.seq (.reg Tryd.fn46_r16)
          (.trim [0, 3, 8, 9]))))))))))))))
    (.seq (.reg Tryd.fn46_r17)
    (.trim [0, 3, 8, 9])))))
def Tryd.fn46 : AFun :=
 ⟨47, [.tmp 2],
 (.seq (.seq (.reg Tryd.fn46_r0)
  (.trim [0]))
 (.seq (.seq (.reg Tryd.fn46_r1)
  (.trim [0, 3]))
 (.seq (.seq (.reg Tryd.fn46_r2)
  (.trim [0, 3]))
 (.seq (.seq (.seq (.reg Tryd.fn46_r3)
   (.trim [0, 3, 8, 9]))
  (.block 0
   (.loop (some [0, 3, 8, 9])
    Tryd.fn46_l0)))
 (.seq (.seq (.reg Tryd.fn46_r18)
  (.trim [3]))
 (.seq (.seq (.reg Tryd.fn46_r19)
  (.trim [2]))
 .ret)))))), true, .none⟩
/-! signalbench/signalbenchref07.Valid -/
def Tryd.fn48_r0 : List AIns :=
   [⟨(some 1), .box 38 (.t 0), .none⟩,
    ⟨(some 2), .mov (.c (.bool false)), .none⟩]
def Tryd.fn48_r1 : List AIns :=
   [⟨(some 3), .fa 0 (.t 1), .none⟩,
      ⟨(some 4), .ld1 (.t 3), .none⟩,
      ⟨(some 5), .bin .lss (.t 4) (.c (.int .i64 1)), .none⟩,
      ⟨(some 6), .mov (.t 5), .none⟩,
      ⟨(some 7), .fa 0 (.t 1), (some (6, false))⟩,
      ⟨(some 8), .ld1 (.t 7), (some (6, false))⟩,
      ⟨(some 9), .bin .gtr (.t 8) (.c (.int .i64 8)), (some (6, false))⟩,
      ⟨(some 10), .pick (.t 6) (.c (.bool true)) (.t 9), .none⟩,
      ⟨(some 11), .mov (.t 10), .none⟩,
      ⟨(some 12), .fa 1 (.t 1), (some (11, false))⟩]
def Tryd.fn48_r2 : List AIns :=
   [⟨(some 13), .ld1 (.t 12), (some (11, false))⟩,
      ⟨(some 14), .bin .lss (.t 13) (.c (.int .i64 0)), (some (11, false))⟩,
      ⟨(some 15), .pick (.t 11) (.c (.bool true)) (.t 14), .none⟩,
      ⟨(some 16), .mov (.t 15), .none⟩,
      ⟨(some 17), .fa 1 (.t 1), (some (16, false))⟩,
      ⟨(some 18), .ld1 (.t 17), (some (16, false))⟩,
      ⟨(some 19), .fa 2 (.t 1), (some (16, false))⟩,
      ⟨(some 20), .ld1 (.t 19), (some (16, false))⟩,
      ⟨(some 21), .bin .gtr (.t 18) (.t 20), (some (16, false))⟩,
      ⟨(some 22), .pick (.t 16) (.c (.bool true)) (.t 21), .none⟩]
def Tryd.fn48_r3 : List AIns :=
   [⟨(some 23), .mov (.t 22), .none⟩,
      ⟨(some 24), .fa 2 (.t 1), (some (23, false))⟩,
      ⟨(some 25), .ld1 (.t 24), (some (23, false))⟩,
      ⟨(some 26), .bin .gtr (.t 25) (.c (.int .i64 1099511627776)), (some (23, false))⟩,
      ⟨(some 27), .pick (.t 23) (.c (.bool true)) (.t 26), .none⟩,
      ⟨(some 28), .mov (.t 27), .none⟩,
      ⟨(some 29), .fa 5 (.t 1), (some (28, false))⟩,
      ⟨(some 30), .ld1 (.t 29), (some (28, false))⟩,
      ⟨(some 31), .lens (.t 30), (some (28, false))⟩,
      ⟨(some 32), .bin .gtr (.t 31) (.c (.int .i64 4096)), (some (28, false))⟩]
def Tryd.fn48_r4 : List AIns :=
   [⟨(some 33), .pick (.t 28) (.c (.bool true)) (.t 32), .none⟩,
      ⟨(some 34), .mov (.t 33), .none⟩,
      ⟨(some 35), .fa 6 (.t 1), (some (34, false))⟩,
      ⟨(some 36), .ld1 (.t 35), (some (34, false))⟩,
      ⟨(some 37), .bin .lss (.t 36) (.c (.int .i64 0)), (some (34, false))⟩,
      ⟨(some 38), .pick (.t 34) (.c (.bool true)) (.t 37), .none⟩,
      ⟨(some 39), .mov (.t 38), .none⟩,
      ⟨(some 40), .fa 6 (.t 1), (some (39, false))⟩,
      ⟨(some 41), .ld1 (.t 40), (some (39, false))⟩,
      ⟨(some 42), .bin .gtr (.t 41) (.c (.int .i64 12)), (some (39, false))⟩]
def Tryd.fn48_r5 : List AIns :=
   [⟨(some 43), .pick (.t 39) (.c (.bool true)) (.t 42), .none⟩]
def Tryd.fn48_r6 : List AIns :=
   [⟨(some 2), .mov (.c (.bool false)), .none⟩]
def Tryd.fn48_r7 : List AIns :=
   [⟨(some 44), .fa 3 (.t 1), .none⟩,
     ⟨(some 45), .ld1 (.t 44), .none⟩,
     ⟨(some 46), .bin .geq (.t 45) (.c (.int .i64 (-9007199254740992))), .none⟩,
     ⟨(some 47), .mov (.t 46), .none⟩,
     ⟨(some 48), .fa 3 (.t 1), (some (47, true))⟩,
     ⟨(some 49), .ld1 (.t 48), (some (47, true))⟩,
     ⟨(some 50), .bin .leq (.t 49) (.c (.int .i64 9007199254740992)), (some (47, true))⟩,
     ⟨(some 51), .pick (.t 47) (.t 50) (.c (.bool false)), .none⟩,
     ⟨(some 52), .mov (.t 51), .none⟩,
     ⟨(some 53), .fa 4 (.t 1), (some (52, true))⟩]
def Tryd.fn48_r8 : List AIns :=
   [⟨(some 54), .ld1 (.t 53), (some (52, true))⟩,
    ⟨(some 55), .bin .geq (.t 54) (.c (.int .i64 (-9007199254740992))), (some (52, true))⟩,
    ⟨(some 56), .pick (.t 52) (.t 55) (.c (.bool false)), .none⟩,
    ⟨(some 57), .mov (.t 56), .none⟩,
    ⟨(some 58), .fa 4 (.t 1), (some (57, true))⟩,
    ⟨(some 59), .ld1 (.t 58), (some (57, true))⟩,
    ⟨(some 60), .bin .leq (.t 59) (.c (.int .i64 9007199254740992)), (some (57, true))⟩,
    ⟨(some 61), .pick (.t 57) (.t 60) (.c (.bool false)), .none⟩,
    ⟨(some 2), .mov (.t 61), .none⟩]
def Tryd.fn48 : AFun :=
 ⟨62, [.tmp 2],
 (.seq (.seq (.reg Tryd.fn48_r0)
  (.trim [1]))
 (.seq (.seq (.seq (.seq (.reg Tryd.fn48_r1)
    (.trim [1, 11, 12]))
   (.seq (.seq (.reg Tryd.fn48_r2)
    (.trim [1, 22]))
   (.seq (.seq (.reg Tryd.fn48_r3)
    (.trim [1, 28, 32]))
   (.seq (.seq (.reg Tryd.fn48_r4)
    (.trim [1, 39, 42]))
   (.seq (.reg Tryd.fn48_r5)
   (.trim [1, 43]))))))
  (.cond (.t 43)
   (.seq (.seq (.reg Tryd.fn48_r6)
    (.trim [2]))
   .ret)
   .skip))
 (.seq (.seq (.seq (.reg Tryd.fn48_r7)
   (.trim [1, 52, 53]))
  (.seq (.reg Tryd.fn48_r8)
  (.trim [2])))
 .ret))), true, .none⟩
/-! signalbench/signalbenchref07.Line -/
def Tryd.fn49_r0 : List AIns :=
   [⟨(some 1), .box 38 (.t 0), .none⟩,
    ⟨(some 2), .mov (.c (.str [])), .none⟩,
    ⟨(some 3), .mov (.c (.int .i64 0)), .none⟩]
def Tryd.fn49_r1 : List AIns :=
   [⟨(some 5), .ldn 7 (.t 1), .none⟩,
     ⟨(some 6), .call 48 [(.t 5)], .none⟩,
     ⟨(some 7), .un .not (.t 6), .none⟩]
def Tryd.fn49_r2 : List AIns :=
   [⟨(some 2), .mov (.c (.str [])), .none⟩,
      ⟨(some 3), .mov (.c (.int .i64 1)), .none⟩]
def Tryd.fn49_r3e : List DIns :=
   ⟨⟨(some 38), .bin .add (.t 34) (.t 37), .none⟩, [26, 29, 25, 21, 24, 20, 16, 19, 15, 11, 14, 10, 6, 9, 5, 4, 0, 3, 2, 1, 8, 7, 13, 12, 18, 17, 23, 22, 28, 27], [31], 0⟩ ::
   ⟨⟨(some 4), .mov (.t 38), .none⟩, [30, 29, 0, 1, 2, 3, 4, 5, 6, 7, 8, 9, 10, 11, 12, 13, 14, 15, 16, 17, 18, 19, 20, 21, 22, 23, 24, 25, 26, 27, 28], [], 0⟩ ::
   []
def Tryd.fn49_r3d : List DIns :=
   ⟨⟨(some 32), .call 62 [(.t 31)], .none⟩, [23, 19, 22, 18, 14, 17, 13, 9, 12, 8, 0, 7], [25, 26, 29, 30, 31], 1⟩ ::
   ⟨⟨(some 33), .bin .add (.t 29) (.t 32), .none⟩, [21, 24, 20, 16, 19, 15, 11, 14, 10, 6, 9, 5, 4, 0, 3, 2, 1, 8, 7, 13, 12, 18, 17, 23, 22], [26, 30, 31], 0⟩ ::
   ⟨⟨(some 34), .bin .add (.t 33) (.c (.str [32])), .none⟩, [25, 21, 24, 20, 16, 19, 15, 11, 14, 10, 6, 9, 5, 4, 0, 3, 2, 1, 8, 7, 13, 12, 18, 17, 23, 22], [30, 31], 0⟩ ::
   ⟨⟨(some 35), .fa 6 (.t 1), .none⟩, [], [28, 29, 30, 31], 0⟩ ::
   ⟨⟨(some 36), .ld1 (.t 35), .none⟩, [27], [29, 30, 31], 1⟩ ::
   ⟨⟨(some 37), .call 62 [(.t 36)], .none⟩, [28, 24, 27, 23, 19, 22, 18, 14, 17, 13, 9, 12, 8, 0, 7], [30, 31], 1⟩ ::
   Tryd.fn49_r3e
def Tryd.fn49_r3c : List DIns :=
   ⟨⟨(some 26), .ld1 (.t 25), .none⟩, [17], [19, 20, 21, 24, 25, 26, 29, 30, 31], 1⟩ ::
   ⟨⟨(some 27), .call 62 [(.t 26)], .none⟩, [18, 14, 17, 13, 9, 12, 8, 0, 7], [20, 21, 24, 25, 26, 29, 30, 31], 1⟩ ::
   ⟨⟨(some 28), .bin .add (.t 24) (.t 27), .none⟩, [16, 19, 15, 11, 14, 10, 6, 9, 5, 4, 0, 3, 2, 1, 8, 7, 13, 12, 18, 17], [21, 25, 26, 30, 31], 0⟩ ::
   ⟨⟨(some 29), .bin .add (.t 28) (.c (.str [32])), .none⟩, [20, 16, 19, 15, 11, 14, 10, 6, 9, 5, 4, 0, 3, 2, 1, 8, 7, 13, 12, 18, 17], [25, 26, 30, 31], 0⟩ ::
   ⟨⟨(some 30), .fa 4 (.t 1), .none⟩, [], [23, 24, 25, 26, 29, 30, 31], 0⟩ ::
   ⟨⟨(some 31), .ld1 (.t 30), .none⟩, [22], [24, 25, 26, 29, 30, 31], 1⟩ ::
   Tryd.fn49_r3d
def Tryd.fn49_r3b : List DIns :=
   ⟨⟨(some 20), .fa 2 (.t 1), .none⟩, [], [13, 14, 15, 16, 19, 20, 21, 24, 25, 26, 29, 30, 31], 0⟩ ::
   ⟨⟨(some 21), .ld1 (.t 20), .none⟩, [12], [14, 15, 16, 19, 20, 21, 24, 25, 26, 29, 30, 31], 1⟩ ::
   ⟨⟨(some 22), .call 62 [(.t 21)], .none⟩, [13, 9, 12, 8, 0, 7], [15, 16, 19, 20, 21, 24, 25, 26, 29, 30, 31], 1⟩ ::
   ⟨⟨(some 23), .bin .add (.t 19) (.t 22), .none⟩, [11, 14, 10, 6, 9, 5, 4, 0, 3, 2, 1, 8, 7, 13, 12], [16, 20, 21, 25, 26, 30, 31], 0⟩ ::
   ⟨⟨(some 24), .bin .add (.t 23) (.c (.str [32])), .none⟩, [15, 11, 14, 10, 6, 9, 5, 4, 0, 3, 2, 1, 8, 7, 13, 12], [20, 21, 25, 26, 30, 31], 0⟩ ::
   ⟨⟨(some 25), .fa 3 (.t 1), .none⟩, [], [18, 19, 20, 21, 24, 25, 26, 29, 30, 31], 0⟩ ::
   Tryd.fn49_r3c
def Tryd.fn49_r3a : List DIns :=
   ⟨⟨(some 14), .bin .add (.t 13) (.c (.str [32])), .none⟩, [5, 4, 0, 3, 2, 1], [10, 11, 15, 16, 20, 21, 25, 26, 30, 31], 0⟩ ::
   ⟨⟨(some 15), .fa 1 (.t 1), .none⟩, [], [8, 9, 10, 11, 14, 15, 16, 19, 20, 21, 24, 25, 26, 29, 30, 31], 0⟩ ::
   ⟨⟨(some 16), .ld1 (.t 15), .none⟩, [7], [9, 10, 11, 14, 15, 16, 19, 20, 21, 24, 25, 26, 29, 30, 31], 1⟩ ::
   ⟨⟨(some 17), .call 62 [(.t 16)], .none⟩, [8, 0, 7], [10, 11, 14, 15, 16, 19, 20, 21, 24, 25, 26, 29, 30, 31], 1⟩ ::
   ⟨⟨(some 18), .bin .add (.t 14) (.t 17), .none⟩, [6, 9, 5, 4, 0, 3, 2, 1, 8, 7], [11, 15, 16, 20, 21, 25, 26, 30, 31], 0⟩ ::
   ⟨⟨(some 19), .bin .add (.t 18) (.c (.str [32])), .none⟩, [10, 6, 9, 5, 4, 0, 3, 2, 1, 8, 7], [15, 16, 20, 21, 25, 26, 30, 31], 0⟩ ::
   Tryd.fn49_r3b
def Tryd.fn49_r3 : List DIns :=
   ⟨⟨(some 8), .call 61 [], .none⟩, [], [4, 5, 6, 9, 10, 11, 14, 15, 16, 19, 20, 21, 24, 25, 26, 29, 30, 31], 1⟩ ::
   ⟨⟨(some 9), .fa 0 (.t 1), .none⟩, [], [2, 3, 4, 5, 6, 10, 11, 15, 16, 20, 21, 25, 26, 30, 31], 0⟩ ::
   ⟨⟨(some 10), .ld1 (.t 9), .none⟩, [1], [3, 4, 5, 6, 10, 11, 15, 16, 20, 21, 25, 26, 30, 31], 1⟩ ::
   ⟨⟨(some 11), .bin .sub (.t 10) (.c (.int .i64 1)), .none⟩, [2, 1], [4, 5, 6, 10, 11, 15, 16, 20, 21, 25, 26, 30, 31], 0⟩ ::
   ⟨⟨(some 12), .ia 1 (.t 8) (.t 11), .none⟩, [0, 3, 2, 1], [5, 6, 10, 11, 15, 16, 20, 21, 25, 26, 30, 31], 0⟩ ::
   ⟨⟨(some 13), .ld1 (.t 12), .none⟩, [4, 0, 3, 2, 1], [6, 10, 11, 15, 16, 20, 21, 25, 26, 30, 31], 1⟩ ::
   Tryd.fn49_r3a
def Tryd.fn49_r4 : List AIns :=
   [⟨(some 39), .mov (.t 4), .none⟩,
    ⟨(some 40), .bin .add (.t 39) (.c (.str [32])), .none⟩,
    ⟨(some 41), .fa 5 (.t 1), .none⟩,
    ⟨(some 42), .ld1 (.t 41), .none⟩,
    ⟨(some 43), .call 63 [(.t 42)], .none⟩,
    ⟨(some 44), .bin .add (.t 40) (.t 43), .none⟩,
    ⟨(some 2), .mov (.t 44), .none⟩,
    ⟨(some 3), .mov (.c (.int .i64 0)), .none⟩]
def Tryd.fn49 : AFun :=
 ⟨45, [.tmp 2, .tmp 3],
 (.seq (.seq (.reg Tryd.fn49_r0)
  (.trim [1]))
 (.seq (.seq (.seq (.reg Tryd.fn49_r1)
   (.trim [1, 7]))
  (.cond (.t 7)
   (.seq (.seq (.reg Tryd.fn49_r2)
    (.trim [2, 3]))
   .ret)
   .skip))
 (.seq (.seq (.regd Tryd.fn49_r3)
  (.trim [1, 4]))
 (.seq (.seq (.reg Tryd.fn49_r4)
  (.trim [2, 3]))
 .ret)))), true, .none⟩
/-! signalbench/signalbenchref05.Decimal -/
def Tryd.fn50_r0 : List AIns :=
   [⟨(some 2), .mov (.c (.str [])), .none⟩]
def Tryd.fn50_r1 : List AIns :=
   [⟨(some 7), .mov (.t 0), .none⟩,
     ⟨(some 8), .bin .eql (.t 7) (.c (.int .i64 0)), .none⟩]
def Tryd.fn50_r2 : List AIns :=
   [⟨(some 2), .mov (.c (.str [48])), .none⟩]
def Tryd.fn50_r3 : List AIns :=
   [⟨(some 3), .mov (.c (.str [48, 49, 50, 51, 52, 53, 54, 55, 56, 57])), .none⟩]
def Tryd.fn50_r4 : List AIns :=
   [⟨(some 9), .mov (.t 0), .none⟩,
    ⟨(some 4), .mov (.t 9), .none⟩]
def Tryd.fn50_r5 : List AIns :=
   [⟨(some 5), .mov (.c (.str [])), .none⟩]
def Tryd.fn50_r6 : List AIns :=
   [⟨(some 10), .mov (.t 4), .none⟩,
        ⟨(some 11), .bin .neq (.t 10) (.c (.int .i64 0)), .none⟩]
def Tryd.fn50_r7 : List AIns :=
   [⟨(some 12), .mov (.t 4), .none⟩,
        ⟨(some 13), .bin .rem (.t 12) (.c (.int .i64 10)), .none⟩,
        ⟨(some 6), .mov (.t 13), .none⟩]
def Tryd.fn50_r8 : List AIns :=
   [⟨(some 14), .mov (.t 6), .none⟩,
         ⟨(some 15), .bin .lss (.t 14) (.c (.int .i64 0)), .none⟩]
def Tryd.fn50_r9 : List AIns :=
   [⟨(some 16), .mov (.t 6), .none⟩,
         ⟨(some 17), .un .neg (.t 16), .none⟩,
         ⟨(some 6), .mov (.t 17), .none⟩]
def Tryd.fn50_r10 : List AIns :=
   [⟨(some 18), .mov (.t 3), .none⟩,
        ⟨(some 19), .mov (.t 6), .none⟩,
        ⟨(some 20), .mov (.t 6), .none⟩,
        ⟨(some 21), .bin .add (.t 20) (.c (.int .i64 1)), .none⟩,
        ⟨(some 22), .sub (.t 18) (some (.t 19)) (some (.t 21)), .none⟩,
        ⟨(some 23), .mov (.t 5), .none⟩,
        ⟨(some 24), .bin .add (.t 22) (.t 23), .none⟩,
        ⟨(some 5), .mov (.t 24), .none⟩]
def Tryd.fn50_r11 : List AIns :=
   [⟨(some 25), .mov (.t 4), .none⟩,
       ⟨(some 26), .bin .quo (.t 25) (.c (.int .i64 10)), .none⟩,
       ⟨(some 4), .mov (.t 26), .none⟩]
def Tryd.fn50_r12 : List AIns :=
   [⟨(some 27), .mov (.t 0), .none⟩,
     ⟨(some 28), .bin .lss (.t 27) (.c (.int .i64 0)), .none⟩]
def Tryd.fn50_r13 : List AIns :=
   [⟨(some 29), .mov (.t 5), .none⟩,
      ⟨(some 30), .bin .add (.c (.str [45])) (.t 29), .none⟩,
      ⟨(some 2), .mov (.t 30), .none⟩]
def Tryd.fn50_r14 : List AIns :=
   [⟨(some 31), .mov (.t 5), .none⟩,
    ⟨(some 2), .mov (.t 31), .none⟩]
def Tryd.fn50_l0 : ACode :=
 (.seq (.seq (.seq (.reg Tryd.fn50_r6)
      (.trim [0, 3, 4, 5, 11]))
     (.cond (.t 11)
      .skip
      (.exit 0)))
    (.block 1
     (.seq (.seq (.reg Tryd.fn50_r7)
      (.trim [0, 3, 4, 5, 6]))
     (.seq (.seq (.seq (.reg Tryd.fn50_r8)
       (.trim [0, 3, 4, 5, 6, 15]))
      (.cond (.t 15)
       (.seq (.reg Tryd.fn50_r9)
       (.trim [0, 3, 4, 5, 6]))
       .skip))
     (.seq (.seq (.reg Tryd.fn50_r10)
      (.trim [0, 3, 4, 5]))
     (.seq (.reg Tryd.fn50_r11)
     (.trim [0, 3, 4, 5])))))))
def Tryd.fn50 : AFun :=
 ⟨32, [.tmp 2],
 (.seq (.seq (.reg Tryd.fn50_r0)
  (.trim [0]))
 (.seq (.seq (.seq (.reg Tryd.fn50_r1)
   (.trim [0, 8]))
  (.cond (.t 8)
   (.seq (.seq (.reg Tryd.fn50_r2)
    (.trim [2]))
   .ret)
   .skip))
 (.seq (.seq (.reg Tryd.fn50_r3)
  (.trim [0, 3]))
 (.seq (.seq (.reg Tryd.fn50_r4)
  (.trim [0, 3, 4]))
 (.seq (.seq (.reg Tryd.fn50_r5)
  (.trim [0, 3, 4, 5]))
 (.seq (.block 0
   (.loop (some [0, 3, 4, 5])
    Tryd.fn50_l0))
 (.seq (.seq (.seq (.reg Tryd.fn50_r12)
   (.trim [5, 28]))
  (.cond (.t 28)
   (.seq (.seq (.reg Tryd.fn50_r13)
    (.trim [2]))
   .ret)
   .skip))
 (.seq (.seq (.reg Tryd.fn50_r14)
  (.trim [2]))
 .ret)))))))), false, .none⟩
/-! signalbench/lex.plain -/
def Tryd.fn59_r0 : List AIns :=
   [⟨(some 2), .mov (.c (.bool false)), .none⟩]
def Tryd.fn59_r1 : List AIns :=
   [⟨(some 3), .mov (.t 0), .none⟩,
     ⟨(some 4), .bin .leq (.c (.int .i32 32)) (.t 3), .none⟩,
     ⟨(some 5), .mov (.t 4), .none⟩,
     ⟨(some 6), .mov (.t 0), (some (5, true))⟩,
     ⟨(some 7), .bin .leq (.t 6) (.c (.int .i32 126)), (some (5, true))⟩,
     ⟨(some 8), .pick (.t 5) (.t 7) (.c (.bool false)), .none⟩,
     ⟨(some 9), .mov (.t 8), .none⟩,
     ⟨(some 10), .mov (.t 0), (some (9, true))⟩,
     ⟨(some 11), .bin .neq (.t 10) (.c (.int .i32 34)), (some (9, true))⟩,
     ⟨(some 12), .pick (.t 9) (.t 11) (.c (.bool false)), .none⟩]
def Tryd.fn59_r2 : List AIns :=
   [⟨(some 13), .mov (.t 12), .none⟩,
    ⟨(some 14), .mov (.t 0), (some (13, true))⟩,
    ⟨(some 15), .bin .neq (.t 14) (.c (.int .i32 92)), (some (13, true))⟩,
    ⟨(some 16), .pick (.t 13) (.t 15) (.c (.bool false)), .none⟩,
    ⟨(some 2), .mov (.t 16), .none⟩]
def Tryd.fn59 : AFun :=
 ⟨17, [.tmp 2],
 (.seq (.seq (.reg Tryd.fn59_r0)
  (.trim [0]))
 (.seq (.seq (.seq (.reg Tryd.fn59_r1)
   (.trim [0, 12]))
  (.seq (.reg Tryd.fn59_r2)
  (.trim [2])))
 .ret)), true, .none⟩
/-! signalbench/signalbenchref07.names -/
def Tryd.fn61_r0 : List AIns :=
   [⟨(some 0), .mov (.c .nils), .none⟩]
def Tryd.fn61_r1 : List AIns :=
   [⟨(some 1), .bsl 9 1 8 [(.str [])] [(0, 1, (.c (.str [108, 101, 118, 101, 108]))), (1, 1, (.c (.str [98, 105, 116]))), (2, 1, (.c (.str [98, 121, 116, 101]))), (3, 1, (.c (.str [109, 97, 114, 107]))), (4, 1, (.c (.str [102, 114, 97, 109, 101]))), (5, 1, (.c (.str [112, 97, 99, 107, 101, 116]))), (6, 1, (.c (.str [99, 111, 109, 109, 97, 110, 100]))), (7, 1, (.c (.str [112, 97, 105, 114])))], .none⟩,
    ⟨(some 0), .mov (.t 1), .none⟩]
def Tryd.fn61 : AFun :=
 ⟨2, [.tmp 0],
 (.seq (.seq (.reg Tryd.fn61_r0)
  (.trim []))
 (.seq (.seq (.reg Tryd.fn61_r1)
  (.trim [0]))
 .ret)), true, .none⟩
/-! signalbench/signalbenchref07.decimal -/
def Tryd.fn62_r0 : List AIns :=
   [⟨(some 2), .mov (.c (.str [])), .none⟩]
def Tryd.fn62_r1 : List AIns :=
   [⟨(some 3), .mov (.t 0), .none⟩,
     ⟨(some 4), .bin .lss (.t 3) (.c (.int .i64 0)), .none⟩]
def Tryd.fn62_r2 : List AIns :=
   [⟨(some 5), .mov (.t 0), .none⟩,
      ⟨(some 6), .un .neg (.t 5), .none⟩,
      ⟨(some 7), .call 78 [(.t 6)], .none⟩,
      ⟨(some 8), .bin .add (.c (.str [45])) (.t 7), .none⟩,
      ⟨(some 2), .mov (.t 8), .none⟩]
def Tryd.fn62_r3 : List AIns :=
   [⟨(some 9), .mov (.t 0), .none⟩,
    ⟨(some 10), .call 78 [(.t 9)], .none⟩,
    ⟨(some 2), .mov (.t 10), .none⟩]
def Tryd.fn62 : AFun :=
 ⟨11, [.tmp 2],
 (.seq (.seq (.reg Tryd.fn62_r0)
  (.trim [0]))
 (.seq (.seq (.seq (.reg Tryd.fn62_r1)
   (.trim [0, 4]))
  (.cond (.t 4)
   (.seq (.seq (.reg Tryd.fn62_r2)
    (.trim [2]))
   .ret)
   .skip))
 (.seq (.seq (.reg Tryd.fn62_r3)
  (.trim [2]))
 .ret))), true, .none⟩
/-! signalbench/signalbenchref05.Quote -/
def Tryd.fn63_r0 : List AIns :=
   [⟨(some 2), .mov (.c (.str [])), .none⟩]
def Tryd.fn63_r1 : List AIns :=
   [⟨(some 3), .mov (.c (.str [48, 49, 50, 51, 52, 53, 54, 55, 56, 57, 97, 98, 99, 100, 101, 102])), .none⟩]
def Tryd.fn63_r2 : List AIns :=
   [⟨(some 7), .bsl 5 1 1 [(.int .u8 0)] [(0, 1, (.c (.int .u8 34)))], .none⟩,
    ⟨(some 4), .mov (.t 7), .none⟩]
def Tryd.fn63_r3 : List AIns :=
   [⟨(some 5), .mov (.c (.int .i64 0)), .none⟩]
def Tryd.fn63_r4 : List AIns :=
   [⟨(some 8), .mov (.t 5), .none⟩,
        ⟨(some 9), .mov (.t 0), .none⟩,
        ⟨(some 10), .lens (.t 9), .none⟩,
        ⟨(some 11), .bin .lss (.t 8) (.t 10), .none⟩]
def Tryd.fn63_r5 : List AIns :=
   [⟨(some 14), .mov (.t 0), .none⟩,
         ⟨(some 15), .mov (.t 5), .none⟩,
         ⟨(some 16), .ids (.t 14) (.t 15), .none⟩,
         ⟨(some 6), .mov (.t 16), .none⟩]
def Tryd.fn63_r6 : List AIns :=
   [⟨(some 17), .mov (.t 6), .none⟩,
         ⟨(some 18), .bin .eql (.t 17) (.c (.int .u8 34)), .none⟩,
         ⟨(some 19), .mov (.t 18), .none⟩,
         ⟨(some 20), .mov (.t 6), (some (19, false))⟩,
         ⟨(some 21), .bin .eql (.t 20) (.c (.int .u8 92)), (some (19, false))⟩,
         ⟨(some 22), .pick (.t 19) (.c (.bool true)) (.t 21), .none⟩]
def Tryd.fn63_r7 : List AIns :=
   [⟨(some 23), .mov (.t 4), .none⟩,
         ⟨(some 24), .mov (.t 6), .none⟩,
         ⟨(some 25), .bsl 5 1 2 [(.int .u8 0)] [(0, 1, (.c (.int .u8 92))), (1, 1, (.t 24))], .none⟩,
         ⟨(some 26), .app 5 1 1 (.t 23) (.t 25), .none⟩,
         ⟨(some 4), .mov (.t 26), .none⟩]
def Tryd.fn63_r8 : List AIns :=
   [⟨(some 27), .mov (.t 6), .none⟩,
          ⟨(some 28), .bin .eql (.t 27) (.c (.int .u8 10)), .none⟩]
def Tryd.fn63_r9 : List AIns :=
   [⟨(some 29), .mov (.t 4), .none⟩,
          ⟨(some 30), .bsl 5 1 2 [(.int .u8 0)] [(0, 1, (.c (.int .u8 92))), (1, 1, (.c (.int .u8 110)))], .none⟩,
          ⟨(some 31), .app 5 1 1 (.t 29) (.t 30), .none⟩,
          ⟨(some 4), .mov (.t 31), .none⟩]
def Tryd.fn63_r10 : List AIns :=
   [⟨(some 32), .mov (.t 6), .none⟩,
           ⟨(some 33), .bin .lss (.t 32) (.c (.int .u8 32)), .none⟩,
           ⟨(some 34), .mov (.t 33), .none⟩,
           ⟨(some 35), .mov (.t 6), (some (34, false))⟩,
           ⟨(some 36), .bin .gtr (.t 35) (.c (.int .u8 126)), (some (34, false))⟩,
           ⟨(some 37), .pick (.t 34) (.c (.bool true)) (.t 36), .none⟩]
def Tryd.fn63_r11a : List DIns :=
   ⟨⟨(some 44), .mov (.t 6), .none⟩, [], [7, 8, 9, 10, 11], 0⟩ ::
   ⟨⟨(some 45), .bin .rem (.t 44) (.c (.int .u8 16)), .none⟩, [6], [8, 9, 10, 11], 0⟩ ::
   ⟨⟨(some 46), .ids (.t 43) (.t 45), .none⟩, [5, 7, 6], [9, 10, 11], 0⟩ ::
   ⟨⟨(some 47), .bsl 5 1 4 [(.int .u8 0)] [(0, 1, (.c (.int .u8 92))), (1, 1, (.c (.int .u8 120))), (2, 1, (.t 42)), (3, 1, (.t 46))], .none⟩, [4, 8, 1, 3, 2, 5, 7, 6], [10, 11], 2⟩ ::
   ⟨⟨(some 48), .app 5 1 1 (.t 38) (.t 47), .none⟩, [0, 9, 4, 8, 1, 3, 2, 5, 7, 6], [11], 2⟩ ::
   ⟨⟨(some 4), .mov (.t 48), .none⟩, [10, 0, 1, 2, 3, 4, 5, 6, 7, 8, 9], [], 0⟩ ::
   []
def Tryd.fn63_r11 : List DIns :=
   ⟨⟨(some 38), .mov (.t 4), .none⟩, [], [10, 11], 0⟩ ::
   ⟨⟨(some 39), .mov (.t 3), .none⟩, [], [4, 9, 10, 11], 0⟩ ::
   ⟨⟨(some 40), .mov (.t 6), .none⟩, [], [3, 4, 9, 10, 11], 0⟩ ::
   ⟨⟨(some 41), .bin .quo (.t 40) (.c (.int .u8 16)), .none⟩, [2], [4, 9, 10, 11], 0⟩ ::
   ⟨⟨(some 42), .ids (.t 39) (.t 41), .none⟩, [1, 3, 2], [9, 10, 11], 0⟩ ::
   ⟨⟨(some 43), .mov (.t 3), .none⟩, [], [8, 9, 10, 11], 0⟩ ::
   Tryd.fn63_r11a
def Tryd.fn63_r12 : List AIns :=
   [⟨(some 49), .mov (.t 4), .none⟩,
           ⟨(some 50), .mov (.t 6), .none⟩,
           ⟨(some 51), .bsl 5 1 1 [(.int .u8 0)] [(0, 1, (.t 50))], .none⟩,
           ⟨(some 52), .app 5 1 1 (.t 49) (.t 51), .none⟩,
           ⟨(some 4), .mov (.t 52), .none⟩]
def Tryd.fn63_r13 : List AIns :=
   [⟨(some 12), .mov (.t 5), .none⟩,
      ⟨(some 13), .bin .add (.t 12) (.c (.int .i64 1)), .none⟩,
      ⟨(some 5), .mov (.t 13), .none⟩]
def Tryd.fn63_r14 : List AIns :=
   [⟨(some 53), .mov (.t 4), .none⟩,
    ⟨(some 54), .bsl 5 1 1 [(.int .u8 0)] [(0, 1, (.c (.int .u8 34)))], .none⟩,
    ⟨(some 55), .app 5 1 1 (.t 53) (.t 54), .none⟩,
    ⟨(some 56), .b2s (.t 55), .none⟩,
    ⟨(some 2), .mov (.t 56), .none⟩]
def Tryd.fn63_l0 : ACode :=
 (.seq (.seq (.seq (.reg Tryd.fn63_r4)
      (.trim [0, 3, 4, 5, 11]))
     (.cond (.t 11)
      .skip
      (.exit 0)))
    (.seq (.block 1
      (.seq (.seq (.reg Tryd.fn63_r5)
       (.trim [0, 3, 4, 5, 6]))
      (.seq (.seq (.reg Tryd.fn63_r6)
       (.trim [0, 3, 4, 5, 6, 22]))
      (.cond (.t 22)
       (.seq (.reg Tryd.fn63_r7)
       (.trim [0, 3, 4, 5]))
       (.seq (.seq (.reg Tryd.fn63_r8)
        (.trim [0, 3, 4, 5, 6, 28]))
       (.cond (.t 28)
        (.seq (.reg Tryd.fn63_r9)
        (.trim [0, 3, 4, 5]))
        (.seq (.seq (.reg Tryd.fn63_r10)
         (.trim [0, 3, 4, 5, 6, 37]))
        (.cond (.t 37)
         (.seq (.regd Tryd.fn63_r11)
         (.trim [0, 3, 4, 5]))
         (.seq (.reg Tryd.fn63_r12)
         (.trim [0, 3, 4, 5]))))))))))
    (.seq (.reg Tryd.fn63_r13)
    (.trim [0, 3, 4, 5]))))
def Tryd.fn63 : AFun :=
 ⟨57, [.tmp 2],
 (.seq (.seq (.reg Tryd.fn63_r0)
  (.trim [0]))
 (.seq (.seq (.reg Tryd.fn63_r1)
  (.trim [0, 3]))
 (.seq (.seq (.reg Tryd.fn63_r2)
  (.trim [0, 3, 4]))
 (.seq (.seq (.seq (.reg Tryd.fn63_r3)
   (.trim [0, 3, 4, 5]))
  (.block 0
   (.loop (some [0, 3, 4, 5])
    Tryd.fn63_l0)))
 (.seq (.seq (.reg Tryd.fn63_r14)
  (.trim [2]))
 .ret))))), true, .none⟩
/-! signalbench/signalbenchref07.digits -/
def Tryd.fn78_r0 : List AIns :=
   [⟨(some 2), .mov (.c (.str [])), .none⟩]
def Tryd.fn78_r1 : List AIns :=
   [⟨(some 3), .mov (.t 0), .none⟩,
     ⟨(some 4), .bin .lss (.t 3) (.c (.int .i64 10)), .none⟩]
def Tryd.fn78_r2 : List AIns :=
   [⟨(some 5), .mov (.t 0), .none⟩,
      ⟨(some 6), .mov (.t 0), .none⟩,
      ⟨(some 7), .bin .add (.t 6) (.c (.int .i64 1)), .none⟩,
      ⟨(some 8), .sub (.c (.str [48, 49, 50, 51, 52, 53, 54, 55, 56, 57])) (some (.t 5)) (some (.t 7)), .none⟩,
      ⟨(some 2), .mov (.t 8), .none⟩]
def Tryd.fn78_r3a : List DIns :=
   ⟨⟨(some 15), .bin .rem (.t 14) (.c (.int .i64 10)), .none⟩, [5], [7, 8, 9, 10], 0⟩ ::
   ⟨⟨(some 16), .bin .add (.t 15) (.c (.int .i64 1)), .none⟩, [6, 5], [8, 9, 10], 0⟩ ::
   ⟨⟨(some 17), .sub (.c (.str [48, 49, 50, 51, 52, 53, 54, 55, 56, 57])) (some (.t 13)) (some (.t 16)), .none⟩, [4, 7, 3, 6, 5], [9, 10], 0⟩ ::
   ⟨⟨(some 18), .bin .add (.t 11) (.t 17), .none⟩, [2, 8, 1, 0, 4, 7, 3, 6, 5], [10], 0⟩ ::
   ⟨⟨(some 2), .mov (.t 18), .none⟩, [9, 2, 0, 1, 3, 4, 5, 6, 7, 8], [], 0⟩ ::
   []
def Tryd.fn78_r3 : List DIns :=
   ⟨⟨(some 9), .mov (.t 0), .none⟩, [], [1, 2, 9, 10], 0⟩ ::
   ⟨⟨(some 10), .bin .quo (.t 9) (.c (.int .i64 10)), .none⟩, [0], [2, 9, 10], 0⟩ ::
   ⟨⟨(some 11), .call 78 [(.t 10)], .none⟩, [1, 0], [9, 10], 2⟩ ::
   ⟨⟨(some 12), .mov (.t 0), .none⟩, [], [4, 8, 9, 10], 0⟩ ::
   ⟨⟨(some 13), .bin .rem (.t 12) (.c (.int .i64 10)), .none⟩, [3], [8, 9, 10], 0⟩ ::
   ⟨⟨(some 14), .mov (.t 0), .none⟩, [], [6, 7, 8, 9, 10], 0⟩ ::
   Tryd.fn78_r3a
def Tryd.fn78 : AFun :=
 ⟨19, [.tmp 2],
 (.seq (.seq (.reg Tryd.fn78_r0)
  (.trim [0]))
 (.seq (.seq (.seq (.reg Tryd.fn78_r1)
   (.trim [0, 4]))
  (.cond (.t 4)
   (.seq (.seq (.reg Tryd.fn78_r2)
    (.trim [2]))
   .ret)
   .skip))
 (.seq (.seq (.regd Tryd.fn78_r3)
  (.trim [2]))
 .ret))), true, .none⟩
theorem Tryd.fn3_ok : cfunL Tryd.prog Tryd.f3 [.cut [(1, [0])], .cut [(2, [0, 8])], .cut [(1, [2])], .cut [(3, [0, 11])], .cut [(1, [2])], .cut [(7, [0, 3, 4])], .cut [(7, [3, 4, 5, 6])], .cut [(9, [2])]] false = some Tryd.fn3 := by kernel_rfl
theorem Tryd.fn4_ok : cfunL Tryd.prog Tryd.f4 [.cut [(1, [0])], .cut [(2, [0, 14])], .cut [(1, [2])], .cut [(3, [0, 17])], .cut [(1, [2])], .cut [(7, [0, 3, 4])], .cut [(2, [0, 3, 24])], .cut [(3, [2])], .cut [(2, [0, 3, 5])], .cut [(1, [0, 3, 5, 6])], .cut [(1, [0, 3, 5, 6, 7])], .keep [0, 3, 5, 6, 7], .cut [(4, [0, 3, 5, 6, 7, 31])], .keep [0, 3, 5, 6, 7, 43], .cut [(1, [2])], .cut [(2, [0, 3, 5, 6, 7, 8])], .keep [0, 3, 5, 6, 7, 8], .cut [(10, [0, 3, 5, 6, 7, 8, 54])], .cut [(3, [0, 3, 5, 6, 7, 8])], .cut [(10, [0, 3, 5, 6, 7, 8, 66]), (6, [0, 3, 5, 6, 7, 8, 72])], .cut [(1, [2])], .cut [(1, [0, 3, 5, 6, 7, 8, 9])], .cut [(1, [0, 3, 5, 6, 7, 8, 9, 10])], .keep [0, 3, 5, 6, 7, 8, 9, 10], .cut [(7, [0, 3, 5, 6, 7, 8, 9, 10, 79])], .cut [(2, [0, 3, 5, 6, 7, 8, 9, 10, 83])], .cut [(2, [0, 3, 5, 6, 7, 8, 9, 10, 11])], .keep [0, 3, 5, 6, 7, 8, 9, 10, 11], .cut [(10, [0, 3, 5, 6, 7, 8, 9, 10, 11, 90, 91, 94]), (3, [0, 3, 5, 6, 7, 8, 9, 10, 11, 97])], .cut [(3, [0, 3, 5, 6, 7, 8, 9, 10, 11])], .cut [(4, [0, 3, 5, 6, 7, 8, 9, 10, 103])], .cut [(1, [2])], .cut [(9, [0, 3, 5, 6, 7, 8, 9, 10, 12])], .keep [0, 3, 5, 6, 7, 8, 9, 10, 12, 138], .cut [(1, [2])], .cut [(2, [0, 3, 5, 6, 7, 8, 9, 10, 12, 140])], .cut [(5, [0, 3, 5, 6, 7, 8, 9, 10, 12])], .cut [(6, [0, 3, 5, 6, 7, 8, 9, 10, 12, 150])], .cut [(1, [2])], .cut [(4, [0, 3, 5, 6, 7, 8, 9, 10])], .cut [(3, [0, 3, 5, 6, 7, 8, 9, 10])], .cut [(5, [0, 3, 5, 7, 8, 158])], .cut [(1, [2])], .cut [(3, [0, 3, 5, 6, 7])], .cut [(3, [0, 3, 5, 6, 7])], .cut [(5, [2])]] false = some Tryd.fn4 := by kernel_rfl
theorem Tryd.fn5_ok : cfunL Tryd.prog Tryd.f5 [.cut [(1, [0, 1])], .cut [(2, [0, 1, 13])], .cut [(1, [4])], .cut [(3, [0, 1, 16])], .cut [(1, [4])], .cut [(7, [0, 1, 5, 6])], .cut [(7, [0, 1, 5, 6, 7, 8])], .cut [(8, [5, 6, 7, 8, 9, 10])], .cut [(10, [9, 10, 41, 42]), (5, [9, 10, 47])], .cut [(1, [4])], .cut [(1, [9, 10, 11])], .keep [9, 10, 11], .cut [(4, [9, 10, 11, 51])], .keep [9, 10, 11, 62], .cut [(1, [4])], .cut [(3, [9, 10, 11])], .cut [(1, [4])]] true = some Tryd.fn5 := by kernel_rfl
theorem Tryd.fn6_ok : cfunL Tryd.prog Tryd.f6 [.cut [(1, [0])], .cut [(2, [0, 9])], .cut [(1, [2])], .cut [(3, [0, 12])], .cut [(1, [2])], .cut [(3, [0, 3])], .cut [(10, [0, 3, 24]), (5, [0, 3, 29])], .cut [(1, [2])], .cut [(2, [0, 3, 4, 5])], .cut [(1, [0, 3, 4, 5, 6])], .keep [0, 3, 4, 5, 6], .cut [(4, [0, 3, 4, 5, 6, 33])], .keep [0, 3, 4, 5, 6, 72], .cut [(1, [2])], .cut [(8, [0, 3, 4, 5, 6])], .cut [(3, [0, 3, 4, 5, 6])], .cut [(1, [0, 4, 5, 7])], .keep [0, 4, 5, 7], .cut [(4, [0, 4, 5, 7, 83])], .cut [(10, [0, 4, 5, 7, 92, 95]), (4, [0, 4, 5, 7, 99])], .cut [(3, [0, 4, 5, 7])], .cut [(3, [0, 4, 5, 7])], .cut [(4, [2])]] true = some Tryd.fn6 := by kernel_rfl
theorem Tryd.fn7_ok : cfunL Tryd.prog Tryd.f7 [.cut [(1, [0])], .cut [(2, [0, 8])], .cut [(1, [2])], .cut [(3, [0, 11])], .cut [(1, [2])], .cut [(7, [0, 3, 4])], .cut [(7, [3, 4, 5, 6])], .cut [(9, [2])]] false = some Tryd.fn7 := by kernel_rfl
theorem Tryd.fn8_ok : cfunL Tryd.prog Tryd.f8 [.cut [(1, [])], .cut [(9, [1, 2])], .cut [(9, [1, 2, 3, 4])], .cut [(10, [4, 28]), (5, [0])]] true = some Tryd.fn8 := by kernel_rfl
theorem Tryd.fn9_ok : cfunL Tryd.prog Tryd.f9 [.cut [(1, [0])], .cut [(3, [0, 7])], .cut [(1, [2])], .cut [(1, [0, 3])], .keep [0, 3], .cut [(4, [0, 3, 11])], .cut [(6, [0, 3, 19])], .cut [(1, [2])], .cut [(1, [0, 3, 4])], .keep [0, 3, 4], .cut [(7, [0, 3, 4, 26])], .cut [(9, [0, 3, 4, 37])], .cut [(1, [2])], .cut [(3, [0, 3, 4])], .cut [(3, [0, 3])], .cut [(1, [2])]] false = some Tryd.fn9 := by kernel_rfl
theorem Tryd.fn10_ok : cfunL Tryd.prog Tryd.f10 [.cut [(2, [0])], .cut [(7, [0, 4, 5])], .cut [(2, [0, 4, 17])], .cut [(2, [2, 3])], .cut [(4, [0, 4, 21])], .cut [(2, [2, 3])], .cut [(1, [0, 4, 6])], .cut [(3, [4, 6, 22, 23, 24])], .keep [4, 6, 22, 23, 24], .cut [(1, [4, 6, 22, 23, 24, 25])], .cut [(3, [4, 6, 8, 22, 23, 24])], .cut [(3, [4, 6, 8, 22, 23, 24, 28, 29, 30])], .keep [4, 6, 8, 22, 23, 24, 28, 29, 30], .cut [(1, [4, 6, 8, 22, 23, 24, 28, 29, 30, 31])], .cut [(5, [4, 6, 8, 9, 10, 22, 23, 24, 28, 29, 30])], .cut [(10, [4, 6, 8, 22, 23, 24, 28, 29, 30, 35, 39, 44]), (1, [4, 6, 8, 22, 23, 24, 28, 29, 30])], .cut [(2, [4, 6, 8, 22, 23, 24, 28, 29, 30])], .cut [(1, [4, 6, 22, 23, 24])], .cut [(2, [4, 6, 22, 23, 24])], .cut [(3, [2, 3])]] false = some Tryd.fn10 := by kernel_rfl
theorem Tryd.fn11_ok : cfunL Tryd.prog Tryd.f11 [.cut [(2, [0])], .cut [(1, [0, 4])], .keep [0, 4], .cut [(4, [0, 4, 13])], .keep [0, 4, 33], .cut [(2, [2, 3])], .cut [(1, [0, 4, 5])], .keep [0, 4, 5], .cut [(7, [0, 4, 5, 40])], .cut [(9, [0, 4, 5, 51])], .cut [(2, [2, 3])], .cut [(3, [0, 4, 5])], .cut [(3, [0, 4])], .cut [(3, [0, 54])], .cut [(2, [2, 3])], .cut [(3, [0, 6])], .cut [(2, [0, 6, 7])], .cut [(1, [0, 6, 7, 8])], .keep [0, 6, 7, 8], .cut [(4, [0, 6, 7, 8, 61])], .cut [(1, [0, 6, 7, 8, 9])], .keep [0, 6, 7, 8, 9], .cut [(4, [0, 6, 7, 8, 9, 67])], .cut [(10, [0, 6, 7, 8, 9])], .cut [(5, [0, 6, 7, 8, 9, 83])], .keep [0, 6, 7, 8, 9], .cut [(3, [0, 6, 7, 8, 9, 103])], .cut [(2, [2, 3])], .cut [(3, [0, 6, 7, 8, 9])], .cut [(4, [0, 6, 7, 8])], .cut [(3, [0, 6, 7, 8])], .cut [(4, [2, 3])]] false = some Tryd.fn11 := by kernel_rfl
theorem Tryd.fn12_ok : cfunL Tryd.prog Tryd.f12 [.cut [(1, [0])], .cut [(3, [0, 7])], .cut [(1, [2])], .cut [(1, [0, 3])], .cut [(1, [0, 3, 4])], .keep [0, 3, 4], .cut [(4, [0, 3, 4, 11])], .cut [(8, [0, 3, 4, 21])], .cut [(1, [2])], .cut [(10, [0, 3, 4])], .cut [(3, [0, 3, 4])], .cut [(3, [2])]] true = some Tryd.fn12 := by kernel_rfl
theorem Tryd.fn13_ok : cfunL Tryd.prog Tryd.f13 [.cut [(2, [0])], .cut [(3, [0, 11, 12, 13])], .keep [0, 11, 12, 13], .cut [(1, [0, 11, 12, 13, 14])], .cut [(4, [0, 5, 11, 12, 13])], .cut [(3, [0, 11, 12, 13, 19])], .cut [(2, [2, 3])], .cut [(2, [0, 11, 12, 13])], .cut [(1, [0, 6])], .cut [(3, [6, 21, 22, 23])], .keep [6, 21, 22, 23], .cut [(1, [6, 21, 22, 23, 24])], .cut [(4, [6, 8, 21, 22, 23])], .cut [(8, [6, 8, 9, 21, 22, 23])], .keep [6, 21, 22, 23], .cut [(2, [6, 21, 22, 23, 47])], .cut [(2, [2, 3])], .cut [(2, [6, 21, 22, 23])], .cut [(3, [2, 3])]] true = some Tryd.fn13 := by kernel_rfl
theorem Tryd.fn14_ok : cfunL Tryd.prog Tryd.f14 [.cut [(2, [0])], .cut [(1, [0, 4])], .keep [0, 4], .cut [(4, [0, 4, 10])], .cut [(6, [0, 4, 18])], .cut [(2, [2, 3])], .cut [(3, [0, 4])], .cut [(2, [0, 5])], .cut [(1, [0, 5, 6])], .keep [0, 5, 6], .cut [(4, [0, 5, 6, 23])], .cut [(8, [0, 5, 6])], .cut [(3, [0, 5, 6, 35])], .cut [(2, [2, 3])], .cut [(3, [0, 5, 6])], .cut [(4, [2, 3])]] true = some Tryd.fn14 := by kernel_rfl
theorem Tryd.fn15_ok : cfunL Tryd.prog Tryd.f15 [.cut [(1, [0, 1])], .cut [(2, [0, 1, 9])], .cut [(1, [4])], .cut [(4, [0, 5])], .cut [(3, [5, 13, 14, 15])], .keep [5, 13, 14, 15], .cut [(1, [5, 13, 14, 15, 16])], .cut [(4, [5, 7, 13, 14, 15])], .cut [(10, [5, 7, 13, 14, 15, 28])], .keep [5, 7, 13, 14, 15], .cut [(4, [5, 7, 13, 14, 15, 41])], .keep [5, 13, 14, 15], .cut [(2, [5, 13, 14, 15])], .cut [(2, [4])]] true = some Tryd.fn15 := by kernel_rfl
theorem Tryd.fn16_ok : cfunL Tryd.prog Tryd.f16 [.cut [(1, [0, 1])], .cut [(2, [0, 1, 5])], .cut [(1, [0, 1, 5, 6])], .keep [0, 1, 5, 6], .cut [(7, [0, 1, 5, 6, 16])], .cut [(3, [0, 1, 5, 6, 7])], .cut [(1, [0, 1, 5, 6, 7, 8])], .keep [0, 1, 5, 6, 7, 8], .cut [(4, [0, 1, 5, 6, 7, 8, 23])], .cut [(7, [0, 1, 5, 6, 7, 8, 32])], .cut [(5, [0, 1, 5, 6, 7, 8])], .cut [(7, [0, 1, 5, 6, 7, 8, 43])], .cut [(5, [0, 1, 5, 6, 7, 8])], .cut [(3, [0, 1, 5, 6, 7, 8])], .cut [(5, [0, 1, 5, 6])], .cut [(3, [0, 1, 5, 6])], .cut [(2, [4])]] true = some Tryd.fn16 := by kernel_rfl
theorem Tryd.fn17_ok : cfunL Tryd.prog Tryd.f17 [.cut [(2, [0])], .cut [(3, [0, 11])], .cut [(2, [2, 3])], .cut [(1, [0, 4])], .cut [(2, [0, 4, 5])], .keep [0, 4, 5], .cut [(2, [0, 4, 5, 14])], .cut [(3, [0, 4, 5, 6])], .cut [(2, [0, 4, 5, 6, 18])], .cut [(2, [2, 3])], .cut [(8, [0, 4, 5, 6])], .cut [(5, [0, 4, 5])], .cut [(7, [0, 4, 7, 8])], .cut [(7, [4, 41])], .cut [(2, [2, 3])], .cut [(3, [2, 3])]] false = some Tryd.fn17 := by kernel_rfl
theorem Tryd.fn18_ok : cfunL Tryd.prog Tryd.f18 [.cut [(2, [0])], .cut [(3, [0, 12])], .cut [(2, [2, 3])], .cut [(7, [0, 4, 5])], .cut [(2, [0, 4, 5, 6])], .cut [(1, [0, 4, 5, 6, 7])], .keep [0, 4, 5, 6, 7], .cut [(4, [0, 4, 5, 6, 7, 22])], .cut [(9, [0, 4, 5, 6, 7])], .cut [(3, [0, 4, 5, 6, 7])], .cut [(7, [0, 5, 6, 8, 9])], .cut [(10, [6, 45, 47]), (1, [6, 48])], .cut [(2, [2, 3])], .cut [(3, [2, 3])]] false = some Tryd.fn18 := by kernel_rfl
theorem Tryd.fn19_ok : cfunL Tryd.prog Tryd.f19 [.cut [(1, [0, 1])], .cut [(5, [0, 1, 11])], .cut [(1, [4])], .cut [(1, [0, 1, 5])], .keep [0, 1, 5], .cut [(4, [0, 1, 5, 15])], .keep [0, 1, 5, 28], .cut [(1, [4])], .cut [(1, [0, 1, 5, 6])], .keep [0, 1, 5, 6], .cut [(7, [0, 1, 5, 6, 35])], .keep [0, 1, 5, 6, 52], .cut [(1, [4])], .cut [(3, [0, 1, 5, 6])], .cut [(3, [0, 1, 5])], .cut [(1, [4])]] false = some Tryd.fn19 := by kernel_rfl
theorem Tryd.fn20_ok : cfunL Tryd.prog Tryd.f20 [.cut [(2, [0])], .cut [(3, [0, 11])], .cut [(2, [2, 3])], .cut [(6, [0, 4])], .cut [(3, [4, 17, 18, 19])], .keep [4, 17, 18, 19], .cut [(1, [4, 17, 18, 19, 20])], .cut [(3, [4, 6, 17, 18, 19])], .cut [(10, [4, 6, 17, 18, 19, 32])], .cut [(2, [2, 3])], .cut [(3, [4, 17, 18, 19, 33, 34, 35])], .keep [4, 17, 18, 19, 33, 34, 35], .cut [(1, [4, 17, 18, 19, 33, 34, 35, 36])], .cut [(5, [4, 7, 8, 17, 18, 19, 33, 34, 35])], .cut [(3, [4, 7, 8, 17, 18, 19, 33, 34, 35, 42])], .cut [(2, [2, 3])], .cut [(10, [4, 17, 18, 19, 33, 34, 35, 51, 52]), (1, [4, 17, 18, 19, 33, 34, 35])], .cut [(2, [4, 17, 18, 19, 33, 34, 35])], .cut [(2, [4, 17, 18, 19])], .cut [(3, [2, 3])]] false = some Tryd.fn20 := by kernel_rfl
theorem Tryd.fn21_ok : cfunL Tryd.prog Tryd.f21 [.cut [(1, [0, 1])], .cut [(1, [0, 1, 5])], .cut [(3, [1, 5, 10, 11, 12])], .keep [1, 5, 10, 11, 12], .cut [(1, [1, 5, 10, 11, 12, 13])], .cut [(3, [1, 5, 7, 10, 11, 12])], .cut [(3, [1, 5, 7, 10, 11, 12, 16, 17, 18])], .keep [1, 5, 7, 10, 11, 12, 16, 17, 18], .cut [(1, [1, 5, 7, 10, 11, 12, 16, 17, 18, 19])], .cut [(5, [1, 5, 7, 8, 9, 10, 11, 12, 16, 17, 18])], .cut [(5, [1, 5, 7, 8, 9, 10, 11, 12, 16, 17, 18, 27])], .cut [(6, [1, 5, 7, 10, 11, 12, 16, 17, 18])], .cut [(8, [1, 5, 7, 10, 11, 12, 16, 17, 18])], .cut [(2, [1, 5, 7, 10, 11, 12, 16, 17, 18, 41])], .cut [(2, [4])], .cut [(2, [1, 5, 7, 10, 11, 12, 16, 17, 18])], .cut [(2, [1, 5, 10, 11, 12])], .cut [(2, [4])]] false = some Tryd.fn21 := by kernel_rfl
theorem Tryd.fn22_ok : cfunD Tryd.prog Tryd.f22 [] [] = some Tryd.fn22 := by kernel_rfl
theorem Tryd.fn23_ok : cfunL Tryd.prog Tryd.f23 [.cut [(1, [0, 1])], .cut [(2, [0, 1])], .cut [(10, [14, 16]), (1, [])], .cut [(1, [4])]] false = some Tryd.fn23 := by kernel_rfl
theorem Tryd.fn24_ok : cfunL Tryd.prog Tryd.f24 [.cut [(1, [0])], .keep [2]] false = some Tryd.fn24 := by kernel_rfl
theorem Tryd.fn25_ok : cfunL Tryd.prog Tryd.f25 [.cut [(1, [0])], .cut [(10, [0, 11, 13]), (10, [0, 23])], .cut [(1, [2])], .cut [(1, [0, 3])], .keep [0, 3], .cut [(4, [0, 3, 27])], .cut [(10, [0, 3, 39]), (10, [0, 3, 40, 49]), (7, [0, 3, 56])], .cut [(1, [2])], .cut [(3, [0, 3])], .cut [(1, [2])]] true = some Tryd.fn25 := by kernel_rfl
theorem Tryd.fn26_ok : cfunL Tryd.prog Tryd.f26 [.cut [(1, [0])], .cut [(6, [0, 3])], .cut [(1, [0, 3, 4])], .keep [0, 3, 4], .cut [(4, [0, 3, 4, 14])], .cut [(1, [0, 3, 4, 5])], .keep [0, 3, 4, 5], .cut [(4, [0, 3, 4, 5, 20])], .keep [0, 3, 4, 5, 35], .cut [(10, [0, 3, 4, 5, 36, 37, 45]), (2, [0, 3, 4, 5])], .cut [(3, [0, 3, 4, 5])], .cut [(3, [0, 3, 4])], .cut [(2, [2])]] false = some Tryd.fn26 := by kernel_rfl
theorem Tryd.fn27_ok : cfunL Tryd.prog Tryd.f27 [.cut [(1, [0])], .cut [(2, [0, 3])], .cut [(1, [0, 3, 4])], .keep [0, 3, 4], .cut [(3, [0, 3, 4, 8])], .cut [(4, [0, 3, 4])], .cut [(3, [0, 3, 4])], .cut [(3, [2])]] true = some Tryd.fn27 := by kernel_rfl
theorem Tryd.fn28_ok : cfunL Tryd.prog Tryd.f28 [.cut [(2, [1])], .cut [(10, [1, 11, 12]), (10, [21, 22]), (4, [2])]] true = some Tryd.fn28 := by kernel_rfl
theorem Tryd.fn29_ok : cfunL Tryd.prog Tryd.f29 [.cut [(3, [1])], .cut [(3, [1, 9])], .cut [(2, [2, 3])], .keep [1, 4], .cut [(10, [1, 4, 18, 20, 22, 24, 26]), (3, [1, 4, 27, 28, 29])], .keep [1, 4, 27, 28, 29], .cut [(1, [1, 4, 27, 28, 29, 30])], .cut [(3, [1, 4, 6, 27, 28, 29])], .cut [(6, [1, 4, 27, 28, 29])], .cut [(2, [1, 4, 27, 28, 29])], .cut [(9, [2, 3])]] true = some Tryd.fn29 := by kernel_rfl
theorem Tryd.fn30_ok : cfunL Tryd.prog Tryd.f30 [.cut [(2, [0, 1])], .cut [(2, [0, 1])], .cut [(10, [1])], .cut [(4, [4, 5])]] false = some Tryd.fn30 := by kernel_rfl
theorem Tryd.fn32_ok : cfunL Tryd.prog Tryd.f32 [.cut [(1, [0])], .cut [(6, [2])]] false = some Tryd.fn32 := by kernel_rfl
theorem Tryd.fn33_ok : cfunL Tryd.prog Tryd.f33 [.cut [(2, [1])], .cut [(10, [1, 11, 12]), (10, [21, 22]), (4, [2])]] true = some Tryd.fn33 := by kernel_rfl
theorem Tryd.fn34_ok : cfunL Tryd.prog Tryd.f34 [.cut [(2, [1])], .cut [(8, [1, 3])], .keep [2]] true = some Tryd.fn34 := by kernel_rfl
theorem Tryd.fn36_ok : cfunL Tryd.prog Tryd.f36 [.cut [(1, [0])], .cut [(1, [0, 3])], .keep [0, 3], .cut [(3, [0, 3, 4])], .cut [(2, [0, 3, 4, 8])], .cut [(5, [2])], .cut [(7, [0, 3, 4])], .cut [(5, [0, 3])]] true = some Tryd.fn36 := by kernel_rfl
theorem Tryd.fn37_ok : cfunL Tryd.prog Tryd.f37 [.cut [(2, [0])], .cut [(2, [0, 4])], .cut [(1, [0, 4, 5])], .cut [(1, [0, 4, 5, 6])], .keep [0, 4, 5, 6], .cut [(4, [0, 4, 5, 6, 11])], .cut [(4, [0, 4, 5, 6, 17])], .cut [(8, [0, 4, 6])], .cut [(3, [0, 4, 5, 6])], .cut [(3, [0, 4, 5, 6])], .cut [(4, [0, 4, 5, 30])], .cut [(8, [2, 3])], .cut [(3, [2, 3])]] true = some Tryd.fn37 := by kernel_rfl
theorem Tryd.fn38_ok : cfunL Tryd.prog Tryd.f38 [.cut [(1, [0])], .cut [(2, [0, 3])], .cut [(1, [0, 3, 4])], .cut [(1, [0, 3, 4, 5])], .keep [0, 3, 4, 5], .cut [(4, [0, 3, 4, 5, 10])], .cut [(10, [0, 3, 4, 5, 15, 20]), (8, [0, 3, 4, 5, 28])], .cut [(3, [0, 3, 4, 5])], .cut [(8, [0, 3, 5])], .keep [0, 3, 5], .cut [(10, [0, 3, 5, 47])], .cut [(3, [0, 3, 5])], .cut [(2, [0, 3, 4, 5])], .cut [(7, [2])]] true = some Tryd.fn38 := by kernel_rfl
theorem Tryd.fn39_ok : cfunL Tryd.prog Tryd.f39 [.cut [(1, [0])], .cut [(10, [0, 11, 13]), (10, [0, 23]), (4, [0, 27])], .cut [(1, [2])], .cut [(3, [0, 29, 30])], .keep [0, 29, 30], .cut [(1, [0, 29, 30, 31])], .cut [(2, [0, 3, 29, 30])], .cut [(10, [0, 29, 30, 42])], .cut [(1, [2])], .cut [(2, [0, 29, 30])], .cut [(1, [2])]] true = some Tryd.fn39 := by kernel_rfl
theorem Tryd.fn40_ok : cfunL Tryd.prog Tryd.f40 [.cut [(2, [1, 2, 3, 5])], .keep []] false = some Tryd.fn40 := by kernel_rfl
theorem Tryd.fn42_ok : cfunL Tryd.prog Tryd.f42 [.cut [(5, [0, 6])], .cut [(8, [])], .cut [(6, [19])], .cut [(1, [])]] false = some Tryd.fn42 := by kernel_rfl
theorem Tryd.fn43_ok : cfunL Tryd.prog Tryd.f43 [.cut [(2, [1])], .cut [(9, [1, 3])], .cut [(1, [2])], .cut [(10, [1, 22]), (6, [1, 12])], .cut [(1, [2])], .cut [(10, [1, 37, 38]), (9, [1, 28])], .cut [(1, [2])], .cut [(10, [1, 56]), (5, [2])]] true = some Tryd.fn43 := by kernel_rfl
theorem Tryd.fn44_ok : cfunL Tryd.prog Tryd.f44 [.cut [(1, [])], .cut [(2, [0])]] true = some Tryd.fn44 := by kernel_rfl
theorem Tryd.fn46_ok : cfunL Tryd.prog Tryd.f46 [.cut [(1, [0])], .cut [(1, [0, 3])], .cut [(1, [0, 3])], .cut [(3, [0, 3, 8, 9])], .keep [0, 3, 8, 9], .cut [(1, [0, 3, 8, 9, 10])], .cut [(2, [0, 3, 4, 8, 9])], .cut [(4, [0, 3, 5, 8, 9])], .cut [(4, [0, 3, 5, 8, 9, 24])], .cut [(2, [0, 3, 8, 9])], .cut [(7, [0, 3, 5, 8, 9, 30])], .cut [(1, [0, 3, 5, 8, 9])], .cut [(2, [0, 3, 8, 9])], .cut [(3, [0, 3, 5, 8, 9, 40])], .cut [(1, [0, 3, 8, 9])], .cut [(1, [0, 3, 5, 8, 9])], .cut [(4, [0, 3, 5, 8, 9])], .cut [(4, [0, 3, 8, 9])], .cut [(2, [0, 3, 8, 9])], .cut [(1, [3])], .cut [(2, [2])]] true = some Tryd.fn46 := by kernel_rfl
theorem Tryd.fn48_ok : cfunL Tryd.prog Tryd.f48 [.cut [(2, [1])], .cut [(10, [1, 11, 12]), (10, [1, 22]), (10, [1, 28, 32]), (10, [1, 39, 42]), (1, [1, 43])], .cut [(1, [2])], .cut [(10, [1, 52, 53]), (9, [2])]] true = some Tryd.fn48 := by kernel_rfl
theorem Tryd.fn49_ok : cfunL Tryd.prog Tryd.f49 [.cut [(3, [1])], .cut [(3, [1, 7])], .cut [(2, [2, 3])], .keep [1, 4], .cut [(8, [2, 3])]] true = some Tryd.fn49 := by kernel_rfl
theorem Tryd.fn50_ok : cfunL Tryd.prog Tryd.f50 [.cut [(1, [0])], .cut [(2, [0, 8])], .cut [(1, [2])], .cut [(1, [0, 3])], .cut [(2, [0, 3, 4])], .cut [(1, [0, 3, 4, 5])], .keep [0, 3, 4, 5], .cut [(2, [0, 3, 4, 5, 11])], .cut [(3, [0, 3, 4, 5, 6])], .cut [(2, [0, 3, 4, 5, 6, 15])], .cut [(3, [0, 3, 4, 5, 6])], .cut [(8, [0, 3, 4, 5])], .cut [(3, [0, 3, 4, 5])], .cut [(2, [5, 28])], .cut [(3, [2])], .cut [(2, [2])]] false = some Tryd.fn50 := by kernel_rfl
theorem Tryd.fn59_ok : cfunL Tryd.prog Tryd.f59 [.cut [(1, [0])], .cut [(10, [0, 12]), (5, [2])]] true = some Tryd.fn59 := by kernel_rfl
theorem Tryd.fn61_ok : cfunL Tryd.prog Tryd.f61 [.cut [(1, [])], .cut [(2, [0])]] true = some Tryd.fn61 := by kernel_rfl
theorem Tryd.fn62_ok : cfunL Tryd.prog Tryd.f62 [.cut [(1, [0])], .cut [(2, [0, 4])], .cut [(5, [2])], .cut [(3, [2])]] true = some Tryd.fn62 := by kernel_rfl
theorem Tryd.fn63_ok : cfunL Tryd.prog Tryd.f63 [.cut [(1, [0])], .cut [(1, [0, 3])], .cut [(2, [0, 3, 4])], .cut [(1, [0, 3, 4, 5])], .keep [0, 3, 4, 5], .cut [(4, [0, 3, 4, 5, 11])], .cut [(4, [0, 3, 4, 5, 6])], .cut [(6, [0, 3, 4, 5, 6, 22])], .cut [(5, [0, 3, 4, 5])], .cut [(2, [0, 3, 4, 5, 6, 28])], .cut [(4, [0, 3, 4, 5])], .cut [(6, [0, 3, 4, 5, 6, 37])], .keep [0, 3, 4, 5], .cut [(5, [0, 3, 4, 5])], .cut [(3, [0, 3, 4, 5])], .cut [(5, [2])]] true = some Tryd.fn63 := by kernel_rfl
theorem Tryd.fn78_ok : cfunL Tryd.prog Tryd.f78 [.cut [(1, [0])], .cut [(2, [0, 4])], .cut [(5, [2])], .keep [2]] true = some Tryd.fn78 := by kernel_rfl
def Tryd.tab : List (Nat × AFun) :=
  [(3, Tryd.fn3), (4, Tryd.fn4), (5, Tryd.fn5), (6, Tryd.fn6), (7, Tryd.fn7), (8, Tryd.fn8), (9, Tryd.fn9), (10, Tryd.fn10), (11, Tryd.fn11), (12, Tryd.fn12), (13, Tryd.fn13), (14, Tryd.fn14), (15, Tryd.fn15), (16, Tryd.fn16), (17, Tryd.fn17), (18, Tryd.fn18), (19, Tryd.fn19), (20, Tryd.fn20), (21, Tryd.fn21), (22, Tryd.fn22), (23, Tryd.fn23), (24, Tryd.fn24), (25, Tryd.fn25), (26, Tryd.fn26), (27, Tryd.fn27), (28, Tryd.fn28), (29, Tryd.fn29), (30, Tryd.fn30), (32, Tryd.fn32), (33, Tryd.fn33), (34, Tryd.fn34), (36, Tryd.fn36), (37, Tryd.fn37), (38, Tryd.fn38), (39, Tryd.fn39), (40, Tryd.fn40), (42, Tryd.fn42), (43, Tryd.fn43), (44, Tryd.fn44), (46, Tryd.fn46), (48, Tryd.fn48), (49, Tryd.fn49), (50, Tryd.fn50), (59, Tryd.fn59), (61, Tryd.fn61), (62, Tryd.fn62), (63, Tryd.fn63), (78, Tryd.fn78)]
theorem Tryd.tabOk : TabOk Tryd.prog (lk Tryd.tab) :=
  tabOk_cons Tryd.func3 _ _ Tryd.fn3_ok <|
  tabOk_cons Tryd.func4 _ _ Tryd.fn4_ok <|
  tabOk_cons Tryd.func5 _ _ Tryd.fn5_ok <|
  tabOk_cons Tryd.func6 _ _ Tryd.fn6_ok <|
  tabOk_cons Tryd.func7 _ _ Tryd.fn7_ok <|
  tabOk_cons Tryd.func8 _ _ Tryd.fn8_ok <|
  tabOk_cons Tryd.func9 _ _ Tryd.fn9_ok <|
  tabOk_cons Tryd.func10 _ _ Tryd.fn10_ok <|
  tabOk_cons Tryd.func11 _ _ Tryd.fn11_ok <|
  tabOk_cons Tryd.func12 _ _ Tryd.fn12_ok <|
  tabOk_cons Tryd.func13 _ _ Tryd.fn13_ok <|
  tabOk_cons Tryd.func14 _ _ Tryd.fn14_ok <|
  tabOk_cons Tryd.func15 _ _ Tryd.fn15_ok <|
  tabOk_cons Tryd.func16 _ _ Tryd.fn16_ok <|
  tabOk_cons Tryd.func17 _ _ Tryd.fn17_ok <|
  tabOk_cons Tryd.func18 _ _ Tryd.fn18_ok <|
  tabOk_cons Tryd.func19 _ _ Tryd.fn19_ok <|
  tabOk_cons Tryd.func20 _ _ Tryd.fn20_ok <|
  tabOk_cons Tryd.func21 _ _ Tryd.fn21_ok <|
  tabOk_consD Tryd.func22 _ _ Tryd.fn22_ok <|
  tabOk_cons Tryd.func23 _ _ Tryd.fn23_ok <|
  tabOk_cons Tryd.func24 _ _ Tryd.fn24_ok <|
  tabOk_cons Tryd.func25 _ _ Tryd.fn25_ok <|
  tabOk_cons Tryd.func26 _ _ Tryd.fn26_ok <|
  tabOk_cons Tryd.func27 _ _ Tryd.fn27_ok <|
  tabOk_cons Tryd.func28 _ _ Tryd.fn28_ok <|
  tabOk_cons Tryd.func29 _ _ Tryd.fn29_ok <|
  tabOk_cons Tryd.func30 _ _ Tryd.fn30_ok <|
  tabOk_cons Tryd.func32 _ _ Tryd.fn32_ok <|
  tabOk_cons Tryd.func33 _ _ Tryd.fn33_ok <|
  tabOk_cons Tryd.func34 _ _ Tryd.fn34_ok <|
  tabOk_cons Tryd.func36 _ _ Tryd.fn36_ok <|
  tabOk_cons Tryd.func37 _ _ Tryd.fn37_ok <|
  tabOk_cons Tryd.func38 _ _ Tryd.fn38_ok <|
  tabOk_cons Tryd.func39 _ _ Tryd.fn39_ok <|
  tabOk_cons Tryd.func40 _ _ Tryd.fn40_ok <|
  tabOk_cons Tryd.func42 _ _ Tryd.fn42_ok <|
  tabOk_cons Tryd.func43 _ _ Tryd.fn43_ok <|
  tabOk_cons Tryd.func44 _ _ Tryd.fn44_ok <|
  tabOk_cons Tryd.func46 _ _ Tryd.fn46_ok <|
  tabOk_cons Tryd.func48 _ _ Tryd.fn48_ok <|
  tabOk_cons Tryd.func49 _ _ Tryd.fn49_ok <|
  tabOk_cons Tryd.func50 _ _ Tryd.fn50_ok <|
  tabOk_cons Tryd.func59 _ _ Tryd.fn59_ok <|
  tabOk_cons Tryd.func61 _ _ Tryd.fn61_ok <|
  tabOk_cons Tryd.func62 _ _ Tryd.fn62_ok <|
  tabOk_cons Tryd.func63 _ _ Tryd.fn63_ok <|
  tabOk_cons Tryd.func78 _ _ Tryd.fn78_ok <|
  tabOk_nil _
end Go.Am
