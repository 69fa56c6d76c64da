/-
The functions of this cut as the abstract machine has them, and that they are what the compiler makes of the program's. Written by a program. Conditions: none.
-/
import Derived.Test.YtolilamofgildaaGreatDoorMb
import Derived.Test.YtolilamofgildaaGreatDoorProg
import Derived.KernelRfl
namespace Go.Am
open Go.Proofs

/-! signalbench/signalbenchlaw56.ReportRoundTrips -/
def Tryz.fn3_r0 : List AIns :=
   [⟨(some 4), .mov (.c (.bool false)), .none⟩]
def Tryz.fn3_r1 : List AIns :=
   [⟨(some 13), .call 4 [], .none⟩,
     ⟨(some 14), .un .not (.t 13), .none⟩]
def Tryz.fn3_r2 : List AIns :=
   [⟨(some 4), .mov (.c (.bool false)), .none⟩]
def Tryz.fn3_r3 : List AIns :=
   [⟨(some 15), .mov (.t 0), .none⟩,
     ⟨(some 16), .call 5 [(.t 15)], .none⟩,
     ⟨(some 17), .un .not (.t 16), .none⟩,
     ⟨(some 18), .mov (.t 17), .none⟩,
     ⟨(some 19), .mov (.t 1), (some (18, false))⟩,
     ⟨(some 20), .call 6 [(.t 19)], (some (18, false))⟩,
     ⟨(some 21), .un .not (.t 20), (some (18, false))⟩,
     ⟨(some 22), .pick (.t 18) (.c (.bool true)) (.t 21), .none⟩]
def Tryz.fn3_r4 : List AIns :=
   [⟨(some 4), .mov (.c (.bool true)), .none⟩]
def Tryz.fn3_r5 : List AIns :=
   [⟨(some 24), .mov (.t 0), .none⟩,
    ⟨(some 25), .call 7 [(.t 24)], .none⟩,
    ⟨(some 23), .mov (.t 25), .none⟩,
    ⟨(some 26), .ext 0 (.t 23), .none⟩,
    ⟨(some 27), .ext 1 (.t 23), .none⟩,
    ⟨(some 5), .mov (.t 26), .none⟩,
    ⟨(some 6), .mov (.t 27), .none⟩]
def Tryz.fn3_r6 : List AIns :=
   [⟨(some 28), .mov (.t 6), .none⟩,
     ⟨(some 29), .bin .eql (.t 28) (.c (.int .i64 0)), .none⟩]
def Tryz.fn3_r7 : List AIns :=
   [⟨(some 31), .mov (.t 5), .none⟩,
      ⟨(some 32), .call 8 [(.t 31)], .none⟩,
      ⟨(some 30), .mov (.t 32), .none⟩,
      ⟨(some 33), .ext 0 (.t 30), .none⟩,
      ⟨(some 34), .ext 1 (.t 30), .none⟩,
      ⟨(some 7), .mov (.t 33), .none⟩,
      ⟨(some 8), .mov (.t 34), .none⟩]
def Tryz.fn3_r8 : List AIns :=
   [⟨(some 35), .mov (.t 8), .none⟩,
      ⟨(some 36), .bin .neq (.t 35) (.c (.int .i64 0)), .none⟩,
      ⟨(some 37), .mov (.t 36), .none⟩,
      ⟨(some 38), .mov (.t 7), (some (37, false))⟩,
      ⟨(some 39), .mov (.t 0), (some (37, false))⟩,
      ⟨(some 40), .call 9 [(.t 38), (.t 39)], (some (37, false))⟩,
      ⟨(some 41), .un .not (.t 40), (some (37, false))⟩,
      ⟨(some 42), .pick (.t 37) (.c (.bool true)) (.t 41), .none⟩]
def Tryz.fn3_r9 : List AIns :=
   [⟨(some 4), .mov (.c (.bool false)), .none⟩]
def Tryz.fn3_r10 : List AIns :=
   [⟨(some 44), .mov (.t 1), .none⟩,
    ⟨(some 45), .call 10 [(.t 44)], .none⟩,
    ⟨(some 43), .mov (.t 45), .none⟩,
    ⟨(some 46), .ext 0 (.t 43), .none⟩,
    ⟨(some 47), .ext 1 (.t 43), .none⟩,
    ⟨(some 9), .mov (.t 46), .none⟩,
    ⟨(some 6), .mov (.t 47), .none⟩]
def Tryz.fn3_r11 : List AIns :=
   [⟨(some 48), .mov (.t 6), .none⟩,
     ⟨(some 49), .bin .eql (.t 48) (.c (.int .i64 0)), .none⟩]
def Tryz.fn3_r12 : List AIns :=
   [⟨(some 51), .mov (.t 9), .none⟩,
      ⟨(some 52), .call 11 [(.t 51)], .none⟩,
      ⟨(some 50), .mov (.t 52), .none⟩,
      ⟨(some 53), .ext 0 (.t 50), .none⟩,
      ⟨(some 54), .ext 1 (.t 50), .none⟩,
      ⟨(some 55), .ext 2 (.t 50), .none⟩,
      ⟨(some 10), .mov (.t 53), .none⟩,
      ⟨(some 11), .mov (.t 54), .none⟩,
      ⟨(some 12), .mov (.t 55), .none⟩]
def Tryz.fn3_r13 : List AIns :=
   [⟨(some 56), .mov (.t 12), .none⟩,
       ⟨(some 57), .bin .neq (.t 56) (.c (.int .i64 0)), .none⟩,
       ⟨(some 58), .mov (.t 57), .none⟩,
       ⟨(some 59), .mov (.t 11), (some (58, false))⟩,
       ⟨(some 60), .bin .neq (.t 59) (.c (.int .i64 0)), (some (58, false))⟩,
       ⟨(some 61), .pick (.t 58) (.c (.bool true)) (.t 60), .none⟩,
       ⟨(some 62), .mov (.t 61), .none⟩,
       ⟨(some 63), .mov (.t 10), (some (62, false))⟩,
       ⟨(some 64), .mov (.t 1), (some (62, false))⟩,
       ⟨(some 65), .call 12 [(.t 63), (.t 64)], (some (62, false))⟩]
def Tryz.fn3_r14 : List AIns :=
   [⟨(some 66), .un .not (.t 65), (some (62, false))⟩,
      ⟨(some 67), .pick (.t 62) (.c (.bool true)) (.t 66), .none⟩]
def Tryz.fn3_r15 : List AIns :=
   [⟨(some 4), .mov (.c (.bool false)), .none⟩]
def Tryz.fn3_r16 : List AIns :=
   [⟨(some 68), .mov (.t 6), .none⟩,
    ⟨(some 69), .bin .eql (.t 68) (.c (.int .i64 0)), .none⟩,
    ⟨(some 70), .mov (.t 69), .none⟩,
    ⟨(some 71), .mov (.t 9), (some (70, false))⟩,
    ⟨(some 72), .bin .eql (.t 71) (.c (.str [])), (some (70, false))⟩,
    ⟨(some 73), .pick (.t 70) (.c (.bool true)) (.t 72), .none⟩,
    ⟨(some 4), .mov (.t 73), .none⟩]
def Tryz.fn3 : AFun :=
 ⟨74, [.tmp 4],
 (.seq (.seq (.reg Tryz.fn3_r0)
  (.trim [0, 1]))
 (.seq (.seq (.seq (.reg Tryz.fn3_r1)
   (.trim [0, 1, 14]))
  (.cond (.t 14)
   (.seq (.seq (.reg Tryz.fn3_r2)
    (.trim [4]))
   .ret)
   .skip))
 (.seq (.seq (.seq (.reg Tryz.fn3_r3)
   (.trim [0, 1, 22]))
  (.cond (.t 22)
   (.seq (.seq (.reg Tryz.fn3_r4)
    (.trim [4]))
   .ret)
   .skip))
 (.seq (.seq (.reg Tryz.fn3_r5)
  (.trim [0, 1, 5, 6]))
 (.seq (.seq (.seq (.reg Tryz.fn3_r6)
   (.trim [0, 1, 5, 29]))
  (.cond (.t 29)
   (.seq (.seq (.reg Tryz.fn3_r7)
    (.trim [0, 1, 7, 8]))
   (.seq (.seq (.reg Tryz.fn3_r8)
    (.trim [1, 42]))
   (.cond (.t 42)
    (.seq (.seq (.reg Tryz.fn3_r9)
     (.trim [4]))
    .ret)
    .skip)))
   .skip))
 (.seq (.seq (.reg Tryz.fn3_r10)
  (.trim [1, 6, 9]))
 (.seq (.seq (.seq (.reg Tryz.fn3_r11)
   (.trim [1, 6, 9, 49]))
  (.cond (.t 49)
   (.seq (.seq (.reg Tryz.fn3_r12)
    (.trim [1, 6, 9, 10, 11, 12]))
   (.seq (.seq (.seq (.reg Tryz.fn3_r13)
     (.trim [6, 9, 62, 65]))
    (.seq (.reg Tryz.fn3_r14)
    (.trim [6, 9, 67])))
   (.cond (.t 67)
    (.seq (.seq (.reg Tryz.fn3_r15)
     (.trim [4]))
    .ret)
    .skip)))
   .skip))
 (.seq (.seq (.reg Tryz.fn3_r16)
  (.trim [4]))
 .ret)))))))), false, .none⟩
/-! signalbench/signalbenchlaw56.lives -/
def Tryz.fn4_r0 : List AIns :=
   [⟨(some 0), .mov (.c (.bool false)), .none⟩]
def Tryz.fn4_r1 : List AIns :=
   [⟨(some 6), .bsl 9 1 2 [(.str [])] [(0, 1, (.c (.str [97]))), (1, 1, (.c (.str [98, 99])))], .none⟩,
    ⟨(some 7), .bsl 9 1 2 [(.str [])] [(0, 1, (.c (.str [100, 101, 102]))), (1, 1, (.c (.str [103])))], .none⟩,
    ⟨(some 8), .bsl 38 1 2 [.nils] [(0, 1, (.t 6)), (1, 1, (.t 7))], .none⟩,
    ⟨(some 9), .call 7 [(.t 8)], .none⟩,
    ⟨(some 5), .mov (.t 9), .none⟩,
    ⟨(some 10), .ext 0 (.t 5), .none⟩,
    ⟨(some 11), .ext 1 (.t 5), .none⟩,
    ⟨(some 1), .mov (.t 10), .none⟩,
    ⟨(some 2), .mov (.t 11), .none⟩]
def Tryz.fn4_r2 : List AIns :=
   [⟨(some 13), .bld [(.int .i64 0), (.int .i64 0), (.int .i64 0), (.int .i64 0), (.int .i64 0), (.str []), (.int .i64 0)] [(0, 1, (.c (.int .i64 3))), (1, 1, (.c (.int .i64 10))), (2, 1, (.c (.int .i64 20))), (3, 1, (.c (.int .i64 65)))], .none⟩,
    ⟨(some 14), .bld [(.int .i64 0), (.int .i64 0), (.int .i64 0), (.int .i64 0), (.int .i64 0), (.int .i64 0), (.int .i64 0), (.str []), (.int .i64 0)] [(0, 1, (.c (.int .i64 1))), (1, 1, (.c (.int .i64 20))), (2, 7, (.t 13))], .none⟩,
    ⟨(some 15), .bsl 42 9 1 [(.int .i64 0), (.int .i64 0), (.int .i64 0), (.int .i64 0), (.int .i64 0), (.int .i64 0), (.int .i64 0), (.str []), (.int .i64 0)] [(0, 9, (.t 14))], .none⟩,
    ⟨(some 16), .call 10 [(.t 15)], .none⟩,
    ⟨(some 12), .mov (.t 16), .none⟩,
    ⟨(some 17), .ext 0 (.t 12), .none⟩,
    ⟨(some 18), .ext 1 (.t 12), .none⟩,
    ⟨(some 3), .mov (.t 17), .none⟩,
    ⟨(some 4), .mov (.t 18), .none⟩]
def Tryz.fn4_r3 : List AIns :=
   [⟨(some 19), .mov (.t 1), .none⟩,
     ⟨(some 20), .bin .eql (.t 19) (.c (.str [97, 32, 32, 32, 32, 98, 99, 10, 100, 101, 102, 32, 32, 103, 10])), .none⟩,
     ⟨(some 21), .mov (.t 20), .none⟩,
     ⟨(some 22), .mov (.t 2), (some (21, true))⟩,
     ⟨(some 23), .bin .eql (.t 22) (.c (.int .i64 0)), (some (21, true))⟩,
     ⟨(some 24), .pick (.t 21) (.t 23) (.c (.bool false)), .none⟩,
     ⟨(some 25), .mov (.t 24), .none⟩,
     ⟨(some 26), .mov (.t 3), (some (25, true))⟩,
     ⟨(some 27), .bin .eql (.t 26) (.c (.str [49, 32, 50, 48, 32, 98, 121, 116, 101, 32, 49, 48, 32, 50, 48, 32, 54, 53, 32, 48, 32, 48, 32, 34, 34, 10])), (some (25, true))⟩,
     ⟨(some 28), .pick (.t 25) (.t 27) (.c (.bool false)), .none⟩]
def Tryz.fn4_r4 : List AIns :=
   [⟨(some 29), .mov (.t 28), .none⟩,
    ⟨(some 30), .mov (.t 4), (some (29, true))⟩,
    ⟨(some 31), .bin .eql (.t 30) (.c (.int .i64 0)), (some (29, true))⟩,
    ⟨(some 32), .pick (.t 29) (.t 31) (.c (.bool false)), .none⟩,
    ⟨(some 0), .mov (.t 32), .none⟩]
def Tryz.fn4 : AFun :=
 ⟨33, [.tmp 0],
 (.seq (.seq (.reg Tryz.fn4_r0)
  (.trim []))
 (.seq (.seq (.reg Tryz.fn4_r1)
  (.trim [1, 2]))
 (.seq (.seq (.reg Tryz.fn4_r2)
  (.trim [1, 2, 3, 4]))
 (.seq (.seq (.seq (.reg Tryz.fn4_r3)
   (.trim [4, 28]))
  (.seq (.reg Tryz.fn4_r4)
  (.trim [0])))
 .ret)))), true, .none⟩
/-! signalbench/signalbenchlaw56.small -/
def Tryz.fn5_r0 : List AIns :=
   [⟨(some 2), .mov (.c (.bool false)), .none⟩]
def Tryz.fn5_r1 : List AIns :=
   [⟨(some 5), .mov (.t 0), .none⟩,
     ⟨(some 6), .lenl (.t 5), .none⟩,
     ⟨(some 7), .bin .gtr (.t 6) (.c (.int .i64 60)), .none⟩]
def Tryz.fn5_r2 : List AIns :=
   [⟨(some 2), .mov (.c (.bool false)), .none⟩]
def Tryz.fn5_r3 : List AIns :=
   [⟨(some 3), .mov (.c (.int .i64 0)), .none⟩]
def Tryz.fn5_r4 : List AIns :=
   [⟨(some 8), .mov (.t 3), .none⟩,
        ⟨(some 9), .mov (.t 0), .none⟩,
        ⟨(some 10), .lenl (.t 9), .none⟩,
        ⟨(some 11), .bin .lss (.t 8) (.t 10), .none⟩]
def Tryz.fn5_r5 : List AIns :=
   [⟨(some 14), .mov (.t 0), .none⟩,
          ⟨(some 15), .mov (.t 3), .none⟩,
          ⟨(some 16), .ia 1 (.t 14) (.t 15), .none⟩,
          ⟨(some 17), .ld1 (.t 16), .none⟩,
          ⟨(some 18), .lenl (.t 17), .none⟩,
          ⟨(some 19), .bin .gtr (.t 18) (.c (.int .i64 60)), .none⟩]
def Tryz.fn5_r6 : List AIns :=
   [⟨(some 2), .mov (.c (.bool false)), .none⟩]
def Tryz.fn5_r7 : List AIns :=
   [⟨(some 4), .mov (.c (.int .i64 0)), .none⟩]
def Tryz.fn5_r8 : List AIns :=
   [⟨(some 20), .mov (.t 4), .none⟩,
            ⟨(some 21), .mov (.t 0), .none⟩,
            ⟨(some 22), .mov (.t 3), .none⟩,
            ⟨(some 23), .ia 1 (.t 21) (.t 22), .none⟩,
            ⟨(some 24), .ld1 (.t 23), .none⟩,
            ⟨(some 25), .lenl (.t 24), .none⟩,
            ⟨(some 26), .bin .lss (.t 20) (.t 25), .none⟩]
def Tryz.fn5_r9 : List AIns :=
   [⟨(some 29), .mov (.t 0), .none⟩,
             ⟨(some 30), .mov (.t 3), .none⟩,
             ⟨(some 31), .ia 1 (.t 29) (.t 30), .none⟩,
             ⟨(some 32), .ld1 (.t 31), .none⟩,
             ⟨(some 33), .mov (.t 4), .none⟩,
             ⟨(some 34), .ia 1 (.t 32) (.t 33), .none⟩,
             ⟨(some 35), .ld1 (.t 34), .none⟩,
             ⟨(some 36), .lens (.t 35), .none⟩,
             ⟨(some 37), .bin .gtr (.t 36) (.c (.int .i64 1000)), .none⟩]
def Tryz.fn5_r10 : List AIns :=
   [⟨(some 2), .mov (.c (.bool false)), .none⟩]
def Tryz.fn5_r11 : List AIns :=
   [⟨(some 27), .mov (.t 4), .none⟩,
          ⟨(some 28), .bin .add (.t 27) (.c (.int .i64 1)), .none⟩,
          ⟨(some 4), .mov (.t 28), .none⟩]
def Tryz.fn5_r12 : List AIns :=
   [⟨(some 12), .mov (.t 3), .none⟩,
      ⟨(some 13), .bin .add (.t 12) (.c (.int .i64 1)), .none⟩,
      ⟨(some 3), .mov (.t 13), .none⟩]
def Tryz.fn5_r13 : List AIns :=
   [⟨(some 2), .mov (.c (.bool true)), .none⟩]
def Tryz.fn5_l0 : ACode :=
 (.seq (.seq (.seq (.reg Tryz.fn5_r8)
          (.trim [0, 3, 4, 26]))
         (.cond (.t 26)
          .skip
          (.exit 2)))
        (.seq (.block 3
          (.seq (.seq (.reg Tryz.fn5_r9)
           (.trim [0, 3, 4, 37]))
          (.cond (.t 37)
           (.seq (.seq (.reg Tryz.fn5_r10)
            (.trim [2]))
           .ret)
           .skip)))
        (.seq (.reg Tryz.fn5_r11)
        (.trim [0, 3, 4]))))
def Tryz.fn5_l1 : ACode :=
 (.seq (.seq (.seq (.reg Tryz.fn5_r4)
      (.trim [0, 3, 11]))
     (.cond (.t 11)
      .skip
      (.exit 0)))
    (.seq (.block 1
      (.seq (.seq (.seq (.reg Tryz.fn5_r5)
        (.trim [0, 3, 19]))
       (.cond (.t 19)
        (.seq (.seq (.reg Tryz.fn5_r6)
         (.trim [2]))
        .ret)
        .skip))
      (.seq (.seq (.reg Tryz.fn5_r7)
       (.trim [0, 3, 4]))
      (.block 2
       (.loop (some [0, 3, 4])
        Tryz.fn5_l0)))))
    (.seq (.reg Tryz.fn5_r12)
    (.trim [0, 3]))))
def Tryz.fn5 : AFun :=
 ⟨38, [.tmp 2],
 (.seq (.seq (.reg Tryz.fn5_r0)
  (.trim [0]))
 (.seq (.seq (.seq (.reg Tryz.fn5_r1)
   (.trim [0, 7]))
  (.cond (.t 7)
   (.seq (.seq (.reg Tryz.fn5_r2)
    (.trim [2]))
   .ret)
   .skip))
 (.seq (.seq (.seq (.reg Tryz.fn5_r3)
   (.trim [0, 3]))
  (.block 0
   (.loop (some [0, 3])
    Tryz.fn5_l1)))
 (.seq (.seq (.reg Tryz.fn5_r13)
  (.trim [2]))
 .ret)))), false, .none⟩
/-! signalbench/signalbenchlaw56.short -/
def Tryz.fn6_r0 : List AIns :=
   [⟨(some 2), .mov (.c (.bool false)), .none⟩]
def Tryz.fn6_r1 : List AIns :=
   [⟨(some 5), .mov (.t 0), .none⟩,
     ⟨(some 6), .lenl (.t 5), .none⟩,
     ⟨(some 7), .bin .gtr (.t 6) (.c (.int .i64 300)), .none⟩]
def Tryz.fn6_r2 : List AIns :=
   [⟨(some 2), .mov (.c (.bool false)), .none⟩]
def Tryz.fn6_r3 : List AIns :=
   [⟨(some 3), .mov (.c (.int .i64 0)), .none⟩]
def Tryz.fn6_r4 : List AIns :=
   [⟨(some 4), .mov (.c (.int .i64 0)), .none⟩]
def Tryz.fn6_r5 : List AIns :=
   [⟨(some 8), .mov (.t 4), .none⟩,
        ⟨(some 9), .mov (.t 0), .none⟩,
        ⟨(some 10), .lenl (.t 9), .none⟩,
        ⟨(some 11), .bin .lss (.t 8) (.t 10), .none⟩]
def Tryz.fn6_r6 : List AIns :=
   [⟨(some 14), .mov (.t 0), .none⟩,
          ⟨(some 15), .mov (.t 4), .none⟩,
          ⟨(some 16), .ia 9 (.t 14) (.t 15), .none⟩,
          ⟨(some 17), .fa 2 (.t 16), .none⟩,
          ⟨(some 18), .fa 5 (.t 17), .none⟩,
          ⟨(some 19), .ld1 (.t 18), .none⟩,
          ⟨(some 20), .lens (.t 19), .none⟩,
          ⟨(some 21), .bin .gtr (.t 20) (.c (.int .i64 5000)), .none⟩]
def Tryz.fn6_r7 : List AIns :=
   [⟨(some 2), .mov (.c (.bool false)), .none⟩]
def Tryz.fn6_r8 : List AIns :=
   [⟨(some 22), .mov (.t 3), .none⟩,
        ⟨(some 23), .mov (.t 0), .none⟩,
        ⟨(some 24), .mov (.t 4), .none⟩,
        ⟨(some 25), .ia 9 (.t 23) (.t 24), .none⟩,
        ⟨(some 26), .fa 2 (.t 25), .none⟩,
        ⟨(some 27), .fa 5 (.t 26), .none⟩,
        ⟨(some 28), .ld1 (.t 27), .none⟩,
        ⟨(some 29), .lens (.t 28), .none⟩,
        ⟨(some 30), .bin .add (.t 22) (.t 29), .none⟩,
        ⟨(some 3), .mov (.t 30), .none⟩]
def Tryz.fn6_r9 : List AIns :=
   [⟨(some 12), .mov (.t 4), .none⟩,
      ⟨(some 13), .bin .add (.t 12) (.c (.int .i64 1)), .none⟩,
      ⟨(some 4), .mov (.t 13), .none⟩]
def Tryz.fn6_r10 : List AIns :=
   [⟨(some 31), .mov (.t 3), .none⟩,
    ⟨(some 32), .bin .leq (.t 31) (.c (.int .i64 50000)), .none⟩,
    ⟨(some 2), .mov (.t 32), .none⟩]
def Tryz.fn6_l0 : ACode :=
 (.seq (.seq (.seq (.reg Tryz.fn6_r5)
      (.trim [0, 3, 4, 11]))
     (.cond (.t 11)
      .skip
      (.exit 0)))
    (.seq (.block 1
      (.seq (.seq (.seq (.reg Tryz.fn6_r6)
        (.trim [0, 3, 4, 21]))
       (.cond (.t 21)
        (.seq (.seq (.reg Tryz.fn6_r7)
         (.trim [2]))
        .ret)
        .skip))
      (.seq (.reg Tryz.fn6_r8)
      (.trim [0, 3, 4]))))
    (.seq (.reg Tryz.fn6_r9)
    (.trim [0, 3, 4]))))
def Tryz.fn6 : AFun :=
 ⟨33, [.tmp 2],
 (.seq (.seq (.reg Tryz.fn6_r0)
  (.trim [0]))
 (.seq (.seq (.seq (.reg Tryz.fn6_r1)
   (.trim [0, 7]))
  (.cond (.t 7)
   (.seq (.seq (.reg Tryz.fn6_r2)
    (.trim [2]))
   .ret)
   .skip))
 (.seq (.seq (.reg Tryz.fn6_r3)
  (.trim [0, 3]))
 (.seq (.seq (.seq (.reg Tryz.fn6_r4)
   (.trim [0, 3, 4]))
  (.block 0
   (.loop (some [0, 3, 4])
    Tryz.fn6_l0)))
 (.seq (.seq (.reg Tryz.fn6_r10)
  (.trim [2]))
 .ret))))), true, .none⟩
/-! signalbench/report.Table -/
def Tryz.fn7_r0 : List AIns :=
   [⟨(some 2), .mov (.c (.str [])), .none⟩,
    ⟨(some 3), .mov (.c (.int .i64 0)), .none⟩]
def Tryz.fn7_r1 : List AIns :=
   [⟨(some 12), .mov (.t 0), .none⟩,
    ⟨(some 13), .call 13 [(.t 12)], .none⟩,
    ⟨(some 11), .mov (.t 13), .none⟩,
    ⟨(some 14), .ext 0 (.t 11), .none⟩,
    ⟨(some 15), .ext 1 (.t 11), .none⟩,
    ⟨(some 4), .mov (.t 14), .none⟩,
    ⟨(some 5), .mov (.t 15), .none⟩]
def Tryz.fn7_r2 : List AIns :=
   [⟨(some 16), .mov (.t 5), .none⟩,
     ⟨(some 17), .un .not (.t 16), .none⟩]
def Tryz.fn7_r3 : List AIns :=
   [⟨(some 2), .mov (.c (.str [])), .none⟩,
      ⟨(some 3), .mov (.c (.int .i64 1)), .none⟩]
def Tryz.fn7_r4 : List AIns :=
   [⟨(some 18), .mov (.t 0), .none⟩,
     ⟨(some 19), .mov (.t 4), .none⟩,
     ⟨(some 20), .call 14 [(.t 18), (.t 19)], .none⟩,
     ⟨(some 21), .bin .gtr (.t 20) (.c (.int .i64 1048576)), .none⟩]
def Tryz.fn7_r5 : List AIns :=
   [⟨(some 2), .mov (.c (.str [])), .none⟩,
      ⟨(some 3), .mov (.c (.int .i64 6)), .none⟩]
def Tryz.fn7_r6 : List AIns :=
   [⟨(some 6), .alloc 50 [.nilp, .nils], .none⟩]
def Tryz.fn7_r7 : List AIns :=
   [⟨(some 22), .mov (.t 0), .none⟩,
     ⟨(some 23), .lenl (.t 22), .none⟩,
     ⟨(some 24), .mov (.c (.int .i64 0)), .none⟩]
def Tryz.fn7_r8 : List AIns :=
   [⟨(some 25), .bin .lss (.t 24) (.t 23), .none⟩]
def Tryz.fn7_r9 : List AIns :=
   [⟨(some 26), .ia 1 (.t 22) (.t 24), .none⟩,
         ⟨(some 27), .ld1 (.t 26), .none⟩,
         ⟨(some 8), .mov (.t 27), .none⟩]
def Tryz.fn7_r10 : List AIns :=
   [⟨(some 28), .mov (.t 8), .none⟩,
          ⟨(some 29), .lenl (.t 28), .none⟩,
          ⟨(some 30), .mov (.c (.int .i64 0)), .none⟩]
def Tryz.fn7_r11 : List AIns :=
   [⟨(some 31), .bin .lss (.t 30) (.t 29), .none⟩]
def Tryz.fn7_r12 : List AIns :=
   [⟨(some 32), .mov (.t 30), .none⟩,
              ⟨(some 33), .ia 1 (.t 28) (.t 30), .none⟩,
              ⟨(some 34), .ld1 (.t 33), .none⟩,
              ⟨(some 9), .mov (.t 32), .none⟩,
              ⟨(some 10), .mov (.t 34), .none⟩]
def Tryz.fn7_r13 : List AIns :=
   [⟨(some 35), .mov (.t 10), .none⟩,
              ⟨(some 36), .mov (.t 4), .none⟩,
              ⟨(some 37), .mov (.t 9), .none⟩,
              ⟨(some 38), .ia 1 (.t 36) (.t 37), .none⟩,
              ⟨(some 39), .ld1 (.t 38), .none⟩,
              ⟨(some 40), .mov (.t 9), .none⟩,
              ⟨(some 41), .mov (.t 8), .none⟩,
              ⟨(some 42), .lenl (.t 41), .none⟩,
              ⟨(some 43), .bin .sub (.t 42) (.c (.int .i64 1)), .none⟩,
              ⟨(some 44), .bin .eql (.t 40) (.t 43), .none⟩]
def Tryz.fn7_r14 : List AIns :=
   [⟨(some 45), .call 15 [(.t 6), (.t 35), (.t 39), (.t 44)], .none⟩]
def Tryz.fn7_r15 : List AIns :=
   [⟨(some 46), .bin .add (.t 30) (.c (.int .i64 1)), .none⟩,
           ⟨(some 30), .mov (.t 46), .none⟩]
def Tryz.fn7_r16 : List AIns :=
   [⟨(some 47), .call 16 [(.t 6), (.c (.int .u8 10))], .none⟩]
def Tryz.fn7_r17 : List AIns :=
   [⟨(some 48), .bin .add (.t 24) (.c (.int .i64 1)), .none⟩,
      ⟨(some 24), .mov (.t 48), .none⟩]
def Tryz.fn7_r18 : List AIns :=
   [⟨(some 49), .call 17 [(.t 6)], .none⟩,
    ⟨(some 2), .mov (.t 49), .none⟩,
    ⟨(some 3), .mov (.c (.int .i64 0)), .none⟩]
def Tryz.fn7_l0 : ACode :=
 (.seq (.seq (.reg Tryz.fn7_r11)
          (.trim [4, 6, 8, 22, 23, 24, 28, 29, 30, 31]))
         (.seq (.cond (.t 31)
           .skip
           (.exit 2))
         (.seq (.block 3
           (.seq (.seq (.reg Tryz.fn7_r12)
            (.trim [4, 6, 8, 9, 10, 22, 23, 24, 28, 29, 30]))
           (.seq (.seq (.reg Tryz.fn7_r13)
            (.trim [4, 6, 8, 22, 23, 24, 28, 29, 30, 35, 39, 44]))
           (.seq (.reg Tryz.fn7_r14)
           (.trim [4, 6, 8, 22, 23, 24, 28, 29, 30])))))
         (.seq (.reg Tryz.fn7_r15)
         (.trim [4, 6, 8, 22, 23, 24, 28, 29, 30])))))
def Tryz.fn7_l1 : ACode :=
 (.seq (.seq (.reg Tryz.fn7_r8)
     (.trim [4, 6, 22, 23, 24, 25]))
    (.seq (.cond (.t 25)
      .skip
      (.exit 0))
    (.seq (.block 1
      (.seq (.seq (.reg Tryz.fn7_r9)
       (.trim [4, 6, 8, 22, 23, 24]))
      (.seq (.seq (.seq (.reg Tryz.fn7_r10)
        (.trim [4, 6, 8, 22, 23, 24, 28, 29, 30]))
       (.block 2
        (.loop (some [4, 6, 8, 22, 23, 24, 28, 29, 30])
         Tryz.fn7_l0)))
      (.seq (.reg Tryz.fn7_r16)
      (.trim [4, 6, 22, 23, 24])))))
    (.seq (.reg Tryz.fn7_r17)
    (.trim [4, 6, 22, 23, 24])))))
def Tryz.fn7 : AFun :=
 ⟨50, [.tmp 2, .tmp 3],
 (.seq (.seq (.reg Tryz.fn7_r0)
  (.trim [0]))
 (.seq (.seq (.reg Tryz.fn7_r1)
  (.trim [0, 4, 5]))
 (.seq (.seq (.seq (.reg Tryz.fn7_r2)
   (.trim [0, 4, 17]))
  (.cond (.t 17)
   (.seq (.seq (.reg Tryz.fn7_r3)
    (.trim [2, 3]))
   .ret)
   .skip))
 (.seq (.seq (.seq (.reg Tryz.fn7_r4)
   (.trim [0, 4, 21]))
  (.cond (.t 21)
   (.seq (.seq (.reg Tryz.fn7_r5)
    (.trim [2, 3]))
   .ret)
   .skip))
 (.seq (.seq (.reg Tryz.fn7_r6)
  (.trim [0, 4, 6]))
 (.seq (.seq (.seq (.reg Tryz.fn7_r7)
   (.trim [4, 6, 22, 23, 24]))
  (.block 0
   (.loop (some [4, 6, 22, 23, 24])
    Tryz.fn7_l1)))
 (.seq (.seq (.reg Tryz.fn7_r18)
  (.trim [2, 3]))
 .ret))))))), false, .none⟩
/-! signalbench/report.Rows -/
def Tryz.fn8_r0 : List AIns :=
   [⟨(some 2), .mov (.c .nils), .none⟩,
    ⟨(some 3), .mov (.c (.int .i64 0)), .none⟩]
def Tryz.fn8_r1 : List AIns :=
   [⟨(some 9), .mov (.t 0), .none⟩,
     ⟨(some 10), .lens (.t 9), .none⟩,
     ⟨(some 11), .bin .gtr (.t 10) (.c (.int .i64 1048576)), .none⟩]
def Tryz.fn8_r2 : List AIns :=
   [⟨(some 2), .mov (.c .nils), .none⟩,
      ⟨(some 3), .mov (.c (.int .i64 6)), .none⟩]
def Tryz.fn8_r3 : List AIns :=
   [⟨(some 4), .mov (.c .nils), .none⟩]
def Tryz.fn8_r4 : List AIns :=
   [⟨(some 12), .mov (.t 0), .none⟩,
     ⟨(some 5), .mov (.t 12), .none⟩]
def Tryz.fn8_r5 : List AIns :=
   [⟨(some 13), .mov (.t 5), .none⟩,
        ⟨(some 14), .bin .neq (.t 13) (.c (.str [])), .none⟩]
def Tryz.fn8_r6 : List AIns :=
   [⟨(some 15), .mov (.t 5), .none⟩,
        ⟨(some 16), .call 18 [(.t 15), (.c (.int .u8 10))], .none⟩,
        ⟨(some 6), .mov (.t 16), .none⟩]
def Tryz.fn8_r7 : List AIns :=
   [⟨(some 17), .mov (.t 6), .none⟩,
         ⟨(some 18), .bin .lss (.t 17) (.c (.int .i64 0)), .none⟩]
def Tryz.fn8_r8 : List AIns :=
   [⟨(some 2), .mov (.c .nils), .none⟩,
          ⟨(some 3), .mov (.c (.int .i64 4)), .none⟩]
def Tryz.fn8_r9 : List AIns :=
   [⟨(some 19), .mov (.t 4), .none⟩,
        ⟨(some 20), .mov (.t 5), .none⟩,
        ⟨(some 21), .mov (.t 6), .none⟩,
        ⟨(some 22), .sub (.t 20) .none (some (.t 21)), .none⟩,
        ⟨(some 23), .call 19 [(.t 22)], .none⟩,
        ⟨(some 24), .bsl 38 1 1 [.nils] [(0, 1, (.t 23))], .none⟩,
        ⟨(some 25), .app 38 1 24 (.t 19) (.t 24), .none⟩,
        ⟨(some 4), .mov (.t 25), .none⟩]
def Tryz.fn8_r10 : List AIns :=
   [⟨(some 26), .mov (.t 5), .none⟩,
       ⟨(some 27), .mov (.t 6), .none⟩,
       ⟨(some 28), .bin .add (.t 27) (.c (.int .i64 1)), .none⟩,
       ⟨(some 29), .sub (.t 26) (some (.t 28)) .none, .none⟩,
       ⟨(some 5), .mov (.t 29), .none⟩]
def Tryz.fn8_r11 : List AIns :=
   [⟨(some 31), .mov (.t 4), .none⟩,
     ⟨(some 32), .call 7 [(.t 31)], .none⟩,
     ⟨(some 30), .mov (.t 32), .none⟩,
     ⟨(some 33), .ext 0 (.t 30), .none⟩,
     ⟨(some 34), .ext 1 (.t 30), .none⟩,
     ⟨(some 7), .mov (.t 33), .none⟩,
     ⟨(some 8), .mov (.t 34), .none⟩]
def Tryz.fn8_r12 : List AIns :=
   [⟨(some 35), .mov (.t 8), .none⟩,
     ⟨(some 36), .bin .neq (.t 35) (.c (.int .i64 0)), .none⟩,
     ⟨(some 37), .mov (.t 36), .none⟩,
     ⟨(some 38), .mov (.t 7), (some (37, false))⟩,
     ⟨(some 39), .mov (.t 0), (some (37, false))⟩,
     ⟨(some 40), .bin .neq (.t 38) (.t 39), (some (37, false))⟩,
     ⟨(some 41), .pick (.t 37) (.c (.bool true)) (.t 40), .none⟩]
def Tryz.fn8_r13 : List AIns :=
   [⟨(some 2), .mov (.c .nils), .none⟩,
      ⟨(some 3), .mov (.c (.int .i64 4)), .none⟩]
def Tryz.fn8_r14 : List AIns :=
   [⟨(some 42), .mov (.t 4), .none⟩,
    ⟨(some 2), .mov (.t 42), .none⟩,
    ⟨(some 3), .mov (.c (.int .i64 0)), .none⟩]
def Tryz.fn8_l0 : ACode :=
 (.seq (.seq (.seq (.reg Tryz.fn8_r5)
      (.trim [0, 4, 5, 14]))
     (.cond (.t 14)
      .skip
      (.exit 0)))
    (.block 1
     (.seq (.seq (.reg Tryz.fn8_r6)
      (.trim [0, 4, 5, 6]))
     (.seq (.seq (.seq (.reg Tryz.fn8_r7)
       (.trim [0, 4, 5, 6, 18]))
      (.cond (.t 18)
       (.seq (.seq (.reg Tryz.fn8_r8)
        (.trim [2, 3]))
       .ret)
       .skip))
     (.seq (.seq (.reg Tryz.fn8_r9)
      (.trim [0, 4, 5, 6]))
     (.seq (.reg Tryz.fn8_r10)
     (.trim [0, 4, 5])))))))
def Tryz.fn8 : AFun :=
 ⟨43, [.tmp 2, .tmp 3],
 (.seq (.seq (.reg Tryz.fn8_r0)
  (.trim [0]))
 (.seq (.seq (.seq (.reg Tryz.fn8_r1)
   (.trim [0, 11]))
  (.cond (.t 11)
   (.seq (.seq (.reg Tryz.fn8_r2)
    (.trim [2, 3]))
   .ret)
   .skip))
 (.seq (.seq (.reg Tryz.fn8_r3)
  (.trim [0, 4]))
 (.seq (.seq (.seq (.reg Tryz.fn8_r4)
   (.trim [0, 4, 5]))
  (.block 0
   (.loop (some [0, 4, 5])
    Tryz.fn8_l0)))
 (.seq (.seq (.seq (.reg Tryz.fn8_r11)
   (.trim [0, 4, 7, 8]))
  (.seq (.seq (.reg Tryz.fn8_r12)
   (.trim [4, 41]))
  (.cond (.t 41)
   (.seq (.seq (.reg Tryz.fn8_r13)
    (.trim [2, 3]))
   .ret)
   .skip)))
 (.seq (.seq (.reg Tryz.fn8_r14)
  (.trim [2, 3]))
 .ret)))))), false, .none⟩
/-! signalbench/signalbenchlaw56.sameRows -/
def Tryz.fn9_r0 : List AIns :=
   [⟨(some 4), .mov (.c (.bool false)), .none⟩]
def Tryz.fn9_r1 : List AIns :=
   [⟨(some 7), .mov (.t 0), .none⟩,
     ⟨(some 8), .lenl (.t 7), .none⟩,
     ⟨(some 9), .mov (.t 1), .none⟩,
     ⟨(some 10), .lenl (.t 9), .none⟩,
     ⟨(some 11), .bin .neq (.t 8) (.t 10), .none⟩]
def Tryz.fn9_r2 : List AIns :=
   [⟨(some 4), .mov (.c (.bool false)), .none⟩]
def Tryz.fn9_r3 : List AIns :=
   [⟨(some 5), .mov (.c (.int .i64 0)), .none⟩]
def Tryz.fn9_r4 : List AIns :=
   [⟨(some 12), .mov (.t 5), .none⟩,
        ⟨(some 13), .mov (.t 0), .none⟩,
        ⟨(some 14), .lenl (.t 13), .none⟩,
        ⟨(some 15), .bin .lss (.t 12) (.t 14), .none⟩]
def Tryz.fn9_r5a : List DIns :=
   ⟨⟨(some 24), .mov (.t 5), .none⟩, [], [7, 8, 9, 10], 0⟩ ::
   ⟨⟨(some 25), .ia 1 (.t 23) (.t 24), .none⟩, [5, 6], [8, 9, 10], 0⟩ ::
   ⟨⟨(some 26), .ld1 (.t 25), .none⟩, [7, 5, 6], [9, 10], 1⟩ ::
   ⟨⟨(some 27), .lenl (.t 26), .none⟩, [8, 7, 5, 6], [10], 0⟩ ::
   ⟨⟨(some 28), .bin .neq (.t 22) (.t 27), .none⟩, [4, 9, 3, 2, 0, 1, 8, 7, 5, 6], [], 0⟩ ::
   []
def Tryz.fn9_r5 : List DIns :=
   ⟨⟨(some 18), .mov (.t 0), .none⟩, [], [2, 3, 4, 10], 0⟩ ::
   ⟨⟨(some 19), .mov (.t 5), .none⟩, [], [2, 3, 4, 10], 0⟩ ::
   ⟨⟨(some 20), .ia 1 (.t 18) (.t 19), .none⟩, [0, 1], [3, 4, 10], 0⟩ ::
   ⟨⟨(some 21), .ld1 (.t 20), .none⟩, [2, 0, 1], [4, 10], 1⟩ ::
   ⟨⟨(some 22), .lenl (.t 21), .none⟩, [3, 2, 0, 1], [10], 0⟩ ::
   ⟨⟨(some 23), .mov (.t 1), .none⟩, [], [7, 8, 9, 10], 0⟩ ::
   Tryz.fn9_r5a
def Tryz.fn9_r6 : List AIns :=
   [⟨(some 4), .mov (.c (.bool false)), .none⟩]
def Tryz.fn9_r7 : List AIns :=
   [⟨(some 6), .mov (.c (.int .i64 0)), .none⟩]
def Tryz.fn9_r8 : List AIns :=
   [⟨(some 29), .mov (.t 6), .none⟩,
            ⟨(some 30), .mov (.t 0), .none⟩,
            ⟨(some 31), .mov (.t 5), .none⟩,
            ⟨(some 32), .ia 1 (.t 30) (.t 31), .none⟩,
            ⟨(some 33), .ld1 (.t 32), .none⟩,
            ⟨(some 34), .lenl (.t 33), .none⟩,
            ⟨(some 35), .bin .lss (.t 29) (.t 34), .none⟩]
def Tryz.fn9_r9b : List DIns :=
   ⟨⟨(some 50), .ia 1 (.t 48) (.t 49), .none⟩, [10, 11, 9, 7, 8], [13, 14], 0⟩ ::
   ⟨⟨(some 51), .ld1 (.t 50), .none⟩, [12, 10, 11, 9, 7, 8], [14], 1⟩ ::
   ⟨⟨(some 52), .bin .neq (.t 44) (.t 51), .none⟩, [6, 13, 5, 3, 4, 2, 0, 1, 12, 10, 11, 9, 7, 8], [], 0⟩ ::
   []
def Tryz.fn9_r9a : List DIns :=
   ⟨⟨(some 44), .ld1 (.t 43), .none⟩, [5, 3, 4, 2, 0, 1], [14], 1⟩ ::
   ⟨⟨(some 45), .mov (.t 1), .none⟩, [], [9, 10, 12, 13, 14], 0⟩ ::
   ⟨⟨(some 46), .mov (.t 5), .none⟩, [], [9, 10, 12, 13, 14], 0⟩ ::
   ⟨⟨(some 47), .ia 1 (.t 45) (.t 46), .none⟩, [7, 8], [10, 12, 13, 14], 0⟩ ::
   ⟨⟨(some 48), .ld1 (.t 47), .none⟩, [9, 7, 8], [12, 13, 14], 1⟩ ::
   ⟨⟨(some 49), .mov (.t 6), .none⟩, [], [12, 13, 14], 0⟩ ::
   Tryz.fn9_r9b
def Tryz.fn9_r9 : List DIns :=
   ⟨⟨(some 38), .mov (.t 0), .none⟩, [], [2, 3, 5, 6, 14], 0⟩ ::
   ⟨⟨(some 39), .mov (.t 5), .none⟩, [], [2, 3, 5, 6, 14], 0⟩ ::
   ⟨⟨(some 40), .ia 1 (.t 38) (.t 39), .none⟩, [0, 1], [3, 5, 6, 14], 0⟩ ::
   ⟨⟨(some 41), .ld1 (.t 40), .none⟩, [2, 0, 1], [5, 6, 14], 1⟩ ::
   ⟨⟨(some 42), .mov (.t 6), .none⟩, [], [5, 6, 14], 0⟩ ::
   ⟨⟨(some 43), .ia 1 (.t 41) (.t 42), .none⟩, [3, 4, 2, 0, 1], [6, 14], 0⟩ ::
   Tryz.fn9_r9a
def Tryz.fn9_r10 : List AIns :=
   [⟨(some 4), .mov (.c (.bool false)), .none⟩]
def Tryz.fn9_r11 : List AIns :=
   [⟨(some 36), .mov (.t 6), .none⟩,
          ⟨(some 37), .bin .add (.t 36) (.c (.int .i64 1)), .none⟩,
          ⟨(some 6), .mov (.t 37), .none⟩]
def Tryz.fn9_r12 : List AIns :=
   [⟨(some 16), .mov (.t 5), .none⟩,
      ⟨(some 17), .bin .add (.t 16) (.c (.int .i64 1)), .none⟩,
      ⟨(some 5), .mov (.t 17), .none⟩]
def Tryz.fn9_r13 : List AIns :=
   [⟨(some 4), .mov (.c (.bool true)), .none⟩]
def Tryz.fn9_l0 : ACode :=
 (.seq (.seq (.seq (.reg Tryz.fn9_r8)
          (.trim [0, 1, 5, 6, 35]))
         (.cond (.t 35)
          .skip
          (.exit 2)))
        (.seq (.block 3
          (.seq (.seq (.regd Tryz.fn9_r9)
           (.trim [0, 1, 5, 6, 52]))
          (.cond (.t 52)
           (.seq (.seq (.reg Tryz.fn9_r10)
            (.trim [4]))
           .ret)
           .skip)))
        (.seq (.reg Tryz.fn9_r11)
        (.trim [0, 1, 5, 6]))))
def Tryz.fn9_l1 : ACode :=
 (.seq (.seq (.seq (.reg Tryz.fn9_r4)
      (.trim [0, 1, 5, 15]))
     (.cond (.t 15)
      .skip
      (.exit 0)))
    (.seq (.block 1
      (.seq (.seq (.seq (.regd Tryz.fn9_r5)
        (.trim [0, 1, 5, 28]))
       (.cond (.t 28)
        (.seq (.seq (.reg Tryz.fn9_r6)
         (.trim [4]))
        .ret)
        .skip))
      (.seq (.seq (.reg Tryz.fn9_r7)
       (.trim [0, 1, 5, 6]))
      (.block 2
       (.loop (some [0, 1, 5, 6])
        Tryz.fn9_l0)))))
    (.seq (.reg Tryz.fn9_r12)
    (.trim [0, 1, 5]))))
def Tryz.fn9 : AFun :=
 ⟨53, [.tmp 4],
 (.seq (.seq (.reg Tryz.fn9_r0)
  (.trim [0, 1]))
 (.seq (.seq (.seq (.reg Tryz.fn9_r1)
   (.trim [0, 1, 11]))
  (.cond (.t 11)
   (.seq (.seq (.reg Tryz.fn9_r2)
    (.trim [4]))
   .ret)
   .skip))
 (.seq (.seq (.seq (.reg Tryz.fn9_r3)
   (.trim [0, 1, 5]))
  (.block 0
   (.loop (some [0, 1, 5])
    Tryz.fn9_l1)))
 (.seq (.seq (.reg Tryz.fn9_r13)
  (.trim [4]))
 .ret)))), false, .none⟩
/-! signalbench/report.Export -/
def Tryz.fn10_r0 : List AIns :=
   [⟨(some 2), .mov (.c (.str [])), .none⟩,
    ⟨(some 3), .mov (.c (.int .i64 0)), .none⟩]
def Tryz.fn10_r1 : List AIns :=
   [⟨(some 11), .mov (.t 0), .none⟩,
     ⟨(some 12), .lenl (.t 11), .none⟩,
     ⟨(some 13), .mov (.c (.int .i64 0)), .none⟩]
def Tryz.fn10_r2 : List AIns :=
   [⟨(some 14), .bin .lss (.t 13) (.t 12), .none⟩]
def Tryz.fn10_r3 : List AIns :=
   [⟨(some 15), .ia 9 (.t 11) (.t 13), .none⟩,
         ⟨(some 16), .ldn 9 (.t 15), .none⟩,
         ⟨(some 5), .alloc 42 [(.int .i64 0), (.int .i64 0), (.int .i64 0), (.int .i64 0), (.int .i64 0), (.int .i64 0), (.int .i64 0), (.str []), (.int .i64 0)], .none⟩,
         ⟨.none, .st 9 (.t 5) (.t 16), .none⟩]
def Tryz.fn10_r4 : List AIns :=
   [⟨(some 17), .ldn 9 (.t 5), .none⟩,
         ⟨(some 18), .call 20 [(.t 17)], .none⟩,
         ⟨(some 19), .un .not (.t 18), .none⟩]
def Tryz.fn10_r5 : List AIns :=
   [⟨(some 2), .mov (.c (.str [])), .none⟩,
          ⟨(some 3), .mov (.c (.int .i64 1)), .none⟩]
def Tryz.fn10_r6 : List AIns :=
   [⟨(some 20), .bin .add (.t 13) (.c (.int .i64 1)), .none⟩,
      ⟨(some 13), .mov (.t 20), .none⟩]
def Tryz.fn10_r7 : List AIns :=
   [⟨(some 6), .alloc 50 [.nilp, .nils], .none⟩]
def Tryz.fn10_r8 : List AIns :=
   [⟨(some 21), .mov (.t 0), .none⟩,
     ⟨(some 22), .lenl (.t 21), .none⟩,
     ⟨(some 23), .mov (.c (.int .i64 0)), .none⟩]
def Tryz.fn10_r9 : List AIns :=
   [⟨(some 24), .bin .lss (.t 23) (.t 22), .none⟩]
def Tryz.fn10_r10 : List AIns :=
   [⟨(some 25), .ia 9 (.t 21) (.t 23), .none⟩,
         ⟨(some 26), .ldn 9 (.t 25), .none⟩,
         ⟨(some 8), .alloc 42 [(.int .i64 0), (.int .i64 0), (.int .i64 0), (.int .i64 0), (.int .i64 0), (.int .i64 0), (.int .i64 0), (.str []), (.int .i64 0)], .none⟩,
         ⟨.none, .st 9 (.t 8) (.t 26), .none⟩]
def Tryz.fn10_r11 : List AIns :=
   [⟨(some 28), .fa 2 (.t 8), .none⟩,
         ⟨(some 29), .ldn 7 (.t 28), .none⟩,
         ⟨(some 30), .call 21 [(.t 29)], .none⟩,
         ⟨(some 27), .mov (.t 30), .none⟩,
         ⟨(some 31), .ext 0 (.t 27), .none⟩,
         ⟨(some 32), .ext 1 (.t 27), .none⟩,
         ⟨(some 9), .mov (.t 31), .none⟩,
         ⟨(some 10), .mov (.t 32), .none⟩]
def Tryz.fn10_r12b : List DIns :=
   ⟨⟨(some 45), .call 22 [(.t 6), (.t 44)], .none⟩, [11, 6, 10, 8, 9, 7, 3, 2, 1, 0, 5, 4], [], 2⟩ ::
   []
def Tryz.fn10_r12a : List DIns :=
   ⟨⟨(some 39), .call 23 [(.t 38)], .none⟩, [5, 2, 4, 1, 0], [7, 8, 10, 11, 12], 2⟩ ::
   ⟨⟨(some 40), .bin .add (.t 36) (.t 39), .none⟩, [3, 6, 2, 1, 0, 5, 4], [8, 10, 11, 12], 0⟩ ::
   ⟨⟨(some 41), .bin .add (.t 40) (.c (.str [32])), .none⟩, [7, 3, 6, 2, 1, 0, 5, 4], [10, 11, 12], 0⟩ ::
   ⟨⟨(some 42), .mov (.t 9), .none⟩, [], [10, 11, 12], 0⟩ ::
   ⟨⟨(some 43), .bin .add (.t 41) (.t 42), .none⟩, [8, 9, 7, 3, 6, 2, 1, 0, 5, 4], [11, 12], 0⟩ ::
   ⟨⟨(some 44), .bin .add (.t 43) (.c (.str [10])), .none⟩, [10, 8, 9, 7, 3, 6, 2, 1, 0, 5, 4], [12], 0⟩ ::
   Tryz.fn10_r12b
def Tryz.fn10_r12 : List DIns :=
   ⟨⟨(some 33), .fa 0 (.t 8), .none⟩, [], [1, 2, 3, 6, 7, 8, 10, 11, 12], 0⟩ ::
   ⟨⟨(some 34), .ld1 (.t 33), .none⟩, [0], [2, 3, 6, 7, 8, 10, 11, 12], 1⟩ ::
   ⟨⟨(some 35), .call 23 [(.t 34)], .none⟩, [1, 0], [3, 6, 7, 8, 10, 11, 12], 1⟩ ::
   ⟨⟨(some 36), .bin .add (.t 35) (.c (.str [32])), .none⟩, [2, 1, 0], [7, 8, 10, 11, 12], 0⟩ ::
   ⟨⟨(some 37), .fa 1 (.t 8), .none⟩, [], [5, 6, 7, 8, 10, 11, 12], 0⟩ ::
   ⟨⟨(some 38), .ld1 (.t 37), .none⟩, [4], [6, 7, 8, 10, 11, 12], 1⟩ ::
   Tryz.fn10_r12a
def Tryz.fn10_r13 : List AIns :=
   [⟨(some 46), .call 24 [(.t 6)], .none⟩,
         ⟨(some 47), .bin .gtr (.t 46) (.c (.int .i64 1048576)), .none⟩]
def Tryz.fn10_r14 : List AIns :=
   [⟨(some 2), .mov (.c (.str [])), .none⟩,
          ⟨(some 3), .mov (.c (.int .i64 6)), .none⟩]
def Tryz.fn10_r15 : List AIns :=
   [⟨(some 48), .bin .add (.t 23) (.c (.int .i64 1)), .none⟩,
      ⟨(some 23), .mov (.t 48), .none⟩]
def Tryz.fn10_r16 : List AIns :=
   [⟨(some 49), .call 17 [(.t 6)], .none⟩,
    ⟨(some 2), .mov (.t 49), .none⟩,
    ⟨(some 3), .mov (.c (.int .i64 0)), .none⟩]
def Tryz.fn10_l0 : ACode :=
 (.seq (.seq (.reg Tryz.fn10_r9)
     (.trim [6, 21, 22, 23, 24]))
    (.seq (.cond (.t 24)
      .skip
      (.exit 2))
    (.seq (.block 3
      (.seq (.seq (.reg Tryz.fn10_r10)
       (.trim [6, 8, 21, 22, 23]))
      (.seq (.seq (.reg Tryz.fn10_r11)
       (.trim [6, 8, 9, 21, 22, 23]))
      (.seq (.seq (.regd Tryz.fn10_r12)
       (.trim [6, 21, 22, 23]))
      (.seq (.seq (.reg Tryz.fn10_r13)
       (.trim [6, 21, 22, 23, 47]))
      (.cond (.t 47)
       (.seq (.seq (.reg Tryz.fn10_r14)
        (.trim [2, 3]))
       .ret)
       .skip))))))
    (.seq (.reg Tryz.fn10_r15)
    (.trim [6, 21, 22, 23])))))
def Tryz.fn10_l1 : ACode :=
 (.seq (.seq (.reg Tryz.fn10_r2)
     (.trim [0, 11, 12, 13, 14]))
    (.seq (.cond (.t 14)
      .skip
      (.exit 0))
    (.seq (.block 1
      (.seq (.seq (.reg Tryz.fn10_r3)
       (.trim [0, 5, 11, 12, 13]))
      (.seq (.seq (.reg Tryz.fn10_r4)
       (.trim [0, 11, 12, 13, 19]))
      (.cond (.t 19)
       (.seq (.seq (.reg Tryz.fn10_r5)
        (.trim [2, 3]))
       .ret)
       .skip))))
    (.seq (.reg Tryz.fn10_r6)
    (.trim [0, 11, 12, 13])))))
def Tryz.fn10 : AFun :=
 ⟨50, [.tmp 2, .tmp 3],
 (.seq (.seq (.reg Tryz.fn10_r0)
  (.trim [0]))
 (.seq (.seq (.seq (.reg Tryz.fn10_r1)
   (.trim [0, 11, 12, 13]))
  (.block 0
   (.loop (some [0, 11, 12, 13])
    Tryz.fn10_l1)))
 (.seq (.seq (.reg Tryz.fn10_r7)
  (.trim [0, 6]))
 (.seq (.seq (.seq (.reg Tryz.fn10_r8)
   (.trim [6, 21, 22, 23]))
  (.block 2
   (.loop (some [6, 21, 22, 23])
    Tryz.fn10_l0)))
 (.seq (.seq (.reg Tryz.fn10_r16)
  (.trim [2, 3]))
 .ret))))), true, .none⟩
/-! signalbench/report.Import -/
def Tryz.fn11_r0 : List AIns :=
   [⟨(some 2), .mov (.c .nils), .none⟩,
    ⟨(some 3), .mov (.c (.int .i64 0)), .none⟩,
    ⟨(some 4), .mov (.c (.int .i64 0)), .none⟩]
def Tryz.fn11_r1 : List AIns :=
   [⟨(some 10), .mov (.t 0), .none⟩,
     ⟨(some 11), .lens (.t 10), .none⟩,
     ⟨(some 12), .bin .gtr (.t 11) (.c (.int .i64 1048576)), .none⟩]
def Tryz.fn11_r2 : List AIns :=
   [⟨(some 2), .mov (.c .nils), .none⟩,
      ⟨(some 3), .mov (.c (.int .i64 0)), .none⟩,
      ⟨(some 4), .mov (.c (.int .i64 6)), .none⟩]
def Tryz.fn11_r3 : List AIns :=
   [⟨(some 5), .mov (.c .nils), .none⟩]
def Tryz.fn11_r4 : List AIns :=
   [⟨(some 6), .mov (.c (.int .i64 1)), .none⟩]
def Tryz.fn11_r5 : List AIns :=
   [⟨(some 13), .mov (.t 0), .none⟩,
        ⟨(some 14), .bin .neq (.t 13) (.c (.str [])), .none⟩]
def Tryz.fn11_r6 : List AIns :=
   [⟨(some 17), .mov (.t 0), .none⟩,
         ⟨(some 18), .call 18 [(.t 17), (.c (.int .u8 10))], .none⟩,
         ⟨(some 7), .mov (.t 18), .none⟩]
def Tryz.fn11_r7 : List AIns :=
   [⟨(some 19), .mov (.t 7), .none⟩,
          ⟨(some 20), .bin .lss (.t 19) (.c (.int .i64 0)), .none⟩]
def Tryz.fn11_r8 : List AIns :=
   [⟨(some 21), .mov (.t 6), .none⟩,
           ⟨(some 2), .mov (.c .nils), .none⟩,
           ⟨(some 3), .mov (.t 21), .none⟩,
           ⟨(some 4), .mov (.c (.int .i64 4)), .none⟩]
def Tryz.fn11_r9 : List AIns :=
   [⟨(some 23), .mov (.t 0), .none⟩,
         ⟨(some 24), .mov (.t 7), .none⟩,
         ⟨(some 25), .sub (.t 23) .none (some (.t 24)), .none⟩,
         ⟨(some 26), .call 25 [(.t 25)], .none⟩,
         ⟨(some 22), .mov (.t 26), .none⟩,
         ⟨(some 27), .ext 0 (.t 22), .none⟩,
         ⟨(some 28), .ext 1 (.t 22), .none⟩,
         ⟨(some 8), .alloc 42 [(.int .i64 0), (.int .i64 0), (.int .i64 0), (.int .i64 0), (.int .i64 0), (.int .i64 0), (.int .i64 0), (.str []), (.int .i64 0)], .none⟩,
         ⟨.none, .st 9 (.t 8) (.t 27), .none⟩,
         ⟨(some 9), .mov (.t 28), .none⟩]
def Tryz.fn11_r10 : List AIns :=
   [⟨(some 29), .mov (.t 9), .none⟩,
          ⟨(some 30), .bin .neq (.t 29) (.c (.int .i64 0)), .none⟩]
def Tryz.fn11_r11 : List AIns :=
   [⟨(some 31), .mov (.t 6), .none⟩,
           ⟨(some 32), .mov (.t 9), .none⟩,
           ⟨(some 2), .mov (.c .nils), .none⟩,
           ⟨(some 3), .mov (.t 31), .none⟩,
           ⟨(some 4), .mov (.t 32), .none⟩]
def Tryz.fn11_r12a : List DIns :=
   ⟨⟨(some 39), .bin .add (.t 38) (.c (.int .i64 1)), .none⟩, [5], [7, 9], 0⟩ ::
   ⟨⟨(some 40), .sub (.t 37) (some (.t 39)) .none, .none⟩, [4, 6, 5], [9], 0⟩ ::
   ⟨⟨(some 5), .mov (.t 36), .none⟩, [3, 0, 1, 2], [9], 0⟩ ::
   ⟨⟨(some 0), .mov (.t 40), .none⟩, [7, 8, 0, 1, 2, 3, 4, 5, 6], [], 0⟩ ::
   []
def Tryz.fn11_r12 : List DIns :=
   ⟨⟨(some 33), .mov (.t 5), .none⟩, [], [3, 8, 9], 0⟩ ::
   ⟨⟨(some 34), .ldn 9 (.t 8), .none⟩, [], [2, 3, 8, 9], 2⟩ ::
   ⟨⟨(some 35), .bsl 42 9 1 [(.int .i64 0), (.int .i64 0), (.int .i64 0), (.int .i64 0), (.int .i64 0), (.int .i64 0), (.int .i64 0), (.str []), (.int .i64 0)] [(0, 9, (.t 34))], .none⟩, [1], [3, 8, 9], 2⟩ ::
   ⟨⟨(some 36), .app 42 9 80 (.t 33) (.t 35), .none⟩, [0, 2, 1], [8, 9], 2⟩ ::
   ⟨⟨(some 37), .mov (.t 0), .none⟩, [], [7, 9], 0⟩ ::
   ⟨⟨(some 38), .mov (.t 7), .none⟩, [], [6, 7, 9], 0⟩ ::
   Tryz.fn11_r12a
def Tryz.fn11_r13 : List AIns :=
   [⟨(some 15), .mov (.t 6), .none⟩,
      ⟨(some 16), .bin .add (.t 15) (.c (.int .i64 1)), .none⟩,
      ⟨(some 6), .mov (.t 16), .none⟩]
def Tryz.fn11_r14 : List AIns :=
   [⟨(some 41), .mov (.t 5), .none⟩,
    ⟨(some 2), .mov (.t 41), .none⟩,
    ⟨(some 3), .mov (.c (.int .i64 0)), .none⟩,
    ⟨(some 4), .mov (.c (.int .i64 0)), .none⟩]
def Tryz.fn11_l0 : ACode :=
 (.seq (.seq (.seq (.reg Tryz.fn11_r5)
      (.trim [0, 5, 6, 14]))
     (.cond (.t 14)
      .skip
      (.exit 0)))
    (.seq (.block 1
      (.seq (.seq (.reg Tryz.fn11_r6)
       (.trim [0, 5, 6, 7]))
      (.seq (.seq (.seq (.reg Tryz.fn11_r7)
        (.trim [0, 5, 6, 7, 20]))
       (.cond (.t 20)
        (.seq (.seq (.reg Tryz.fn11_r8)
         (.trim [2, 3, 4]))
        .ret)
        .skip))
      (.seq (.seq (.reg Tryz.fn11_r9)
       (.trim [0, 5, 6, 7, 8, 9]))
      (.seq (.seq (.seq (.reg Tryz.fn11_r10)
        (.trim [0, 5, 6, 7, 8, 9, 30]))
       (.cond (.t 30)
        (.seq (.seq (.reg Tryz.fn11_r11)
         (.trim [2, 3, 4]))
        .ret)
        .skip))
      (.seq (.regd Tryz.fn11_r12)
      (.trim [0, 5, 6])))))))
    (.seq (.reg Tryz.fn11_r13)
    (.trim [0, 5, 6]))))
def Tryz.fn11 : AFun :=
 ⟨42, [.tmp 2, .tmp 3, .tmp 4],
 (.seq (.seq (.reg Tryz.fn11_r0)
  (.trim [0]))
 (.seq (.seq (.seq (.reg Tryz.fn11_r1)
   (.trim [0, 12]))
  (.cond (.t 12)
   (.seq (.seq (.reg Tryz.fn11_r2)
    (.trim [2, 3, 4]))
   .ret)
   .skip))
 (.seq (.seq (.reg Tryz.fn11_r3)
  (.trim [0, 5]))
 (.seq (.seq (.seq (.reg Tryz.fn11_r4)
   (.trim [0, 5, 6]))
  (.block 0
   (.loop (some [0, 5, 6])
    Tryz.fn11_l0)))
 (.seq (.seq (.reg Tryz.fn11_r14)
  (.trim [2, 3, 4]))
 .ret))))), true, .none⟩
/-! signalbench/signalbenchlaw56.sameOuts -/
def Tryz.fn12_r0 : List AIns :=
   [⟨(some 4), .mov (.c (.bool false)), .none⟩]
def Tryz.fn12_r1 : List AIns :=
   [⟨(some 6), .mov (.t 0), .none⟩,
     ⟨(some 7), .lenl (.t 6), .none⟩,
     ⟨(some 8), .mov (.t 1), .none⟩,
     ⟨(some 9), .lenl (.t 8), .none⟩,
     ⟨(some 10), .bin .neq (.t 7) (.t 9), .none⟩]
def Tryz.fn12_r2 : List AIns :=
   [⟨(some 4), .mov (.c (.bool false)), .none⟩]
def Tryz.fn12_r3 : List AIns :=
   [⟨(some 5), .mov (.c (.int .i64 0)), .none⟩]
def Tryz.fn12_r4 : List AIns :=
   [⟨(some 11), .mov (.t 5), .none⟩,
        ⟨(some 12), .mov (.t 0), .none⟩,
        ⟨(some 13), .lenl (.t 12), .none⟩,
        ⟨(some 14), .bin .lss (.t 11) (.t 13), .none⟩]
def Tryz.fn12_r5a : List DIns :=
   ⟨⟨(some 23), .ia 9 (.t 21) (.t 22), .none⟩, [4, 5], [7, 8], 0⟩ ::
   ⟨⟨(some 24), .ldn 9 (.t 23), .none⟩, [6, 4, 5], [8], 1⟩ ::
   ⟨⟨(some 25), .eqv true false (.st [(0, .none, .int), (1, .none, .int), (2, .none, .int), (3, .none, .int), (4, .none, .int), (5, .none, .int), (6, .none, .int), (7, .none, .str), (8, .none, .int)]) (.t 20) (.t 24), .none⟩, [3, 7, 2, 0, 1, 6, 4, 5], [], 0⟩ ::
   []
def Tryz.fn12_r5 : List DIns :=
   ⟨⟨(some 17), .mov (.t 0), .none⟩, [], [2, 3, 8], 0⟩ ::
   ⟨⟨(some 18), .mov (.t 5), .none⟩, [], [2, 3, 8], 0⟩ ::
   ⟨⟨(some 19), .ia 9 (.t 17) (.t 18), .none⟩, [0, 1], [3, 8], 0⟩ ::
   ⟨⟨(some 20), .ldn 9 (.t 19), .none⟩, [2, 0, 1], [8], 1⟩ ::
   ⟨⟨(some 21), .mov (.t 1), .none⟩, [], [6, 7, 8], 0⟩ ::
   ⟨⟨(some 22), .mov (.t 5), .none⟩, [], [6, 7, 8], 0⟩ ::
   Tryz.fn12_r5a
def Tryz.fn12_r6 : List AIns :=
   [⟨(some 4), .mov (.c (.bool false)), .none⟩]
def Tryz.fn12_r7 : List AIns :=
   [⟨(some 15), .mov (.t 5), .none⟩,
      ⟨(some 16), .bin .add (.t 15) (.c (.int .i64 1)), .none⟩,
      ⟨(some 5), .mov (.t 16), .none⟩]
def Tryz.fn12_r8 : List AIns :=
   [⟨(some 4), .mov (.c (.bool true)), .none⟩]
def Tryz.fn12_l0 : ACode :=
 (.seq (.seq (.seq (.reg Tryz.fn12_r4)
      (.trim [0, 1, 5, 14]))
     (.cond (.t 14)
      .skip
      (.exit 0)))
    (.seq (.block 1
      (.seq (.seq (.regd Tryz.fn12_r5)
       (.trim [0, 1, 5, 25]))
      (.cond (.t 25)
       (.seq (.seq (.reg Tryz.fn12_r6)
        (.trim [4]))
       .ret)
       .skip)))
    (.seq (.reg Tryz.fn12_r7)
    (.trim [0, 1, 5]))))
def Tryz.fn12 : AFun :=
 ⟨26, [.tmp 4],
 (.seq (.seq (.reg Tryz.fn12_r0)
  (.trim [0, 1]))
 (.seq (.seq (.seq (.reg Tryz.fn12_r1)
   (.trim [0, 1, 10]))
  (.cond (.t 10)
   (.seq (.seq (.reg Tryz.fn12_r2)
    (.trim [4]))
   .ret)
   .skip))
 (.seq (.seq (.seq (.reg Tryz.fn12_r3)
   (.trim [0, 1, 5]))
  (.block 0
   (.loop (some [0, 1, 5])
    Tryz.fn12_l0)))
 (.seq (.seq (.reg Tryz.fn12_r8)
  (.trim [4]))
 .ret)))), true, .none⟩
/-! signalbench/report.widths -/
def Tryz.fn13_r0 : List AIns :=
   [⟨(some 2), .mov (.c .nils), .none⟩,
    ⟨(some 3), .mov (.c (.bool false)), .none⟩]
def Tryz.fn13_r1 : List AIns :=
   [⟨(some 9), .mov (.t 0), .none⟩,
     ⟨(some 10), .lenl (.t 9), .none⟩,
     ⟨(some 11), .bin .eql (.t 10) (.c (.int .i64 0)), .none⟩]
def Tryz.fn13_r2 : List AIns :=
   [⟨(some 2), .mov (.c .nils), .none⟩,
      ⟨(some 3), .mov (.c (.bool true)), .none⟩]
def Tryz.fn13_r3 : List AIns :=
   [⟨(some 12), .mov (.t 0), .none⟩,
    ⟨(some 13), .ia 1 (.t 12) (.c (.int .i64 0)), .none⟩,
    ⟨(some 14), .ld1 (.t 13), .none⟩,
    ⟨(some 15), .lenl (.t 14), .none⟩,
    ⟨(some 16), .mks 3 1 8 [(.int .i64 0)] (.t 15) (.t 15), .none⟩,
    ⟨(some 4), .mov (.t 16), .none⟩]
def Tryz.fn13_r4 : List AIns :=
   [⟨(some 17), .mov (.t 0), .none⟩,
     ⟨(some 18), .lenl (.t 17), .none⟩,
     ⟨(some 19), .mov (.c (.int .i64 0)), .none⟩]
def Tryz.fn13_r5 : List AIns :=
   [⟨(some 20), .bin .lss (.t 19) (.t 18), .none⟩]
def Tryz.fn13_r6 : List AIns :=
   [⟨(some 21), .ia 1 (.t 17) (.t 19), .none⟩,
         ⟨(some 22), .ld1 (.t 21), .none⟩,
         ⟨(some 6), .mov (.t 22), .none⟩]
def Tryz.fn13_r7 : List AIns :=
   [⟨(some 23), .mov (.t 6), .none⟩,
          ⟨(some 24), .lenl (.t 23), .none⟩,
          ⟨(some 25), .bin .eql (.t 24) (.c (.int .i64 0)), .none⟩,
          ⟨(some 26), .mov (.t 25), .none⟩,
          ⟨(some 27), .mov (.t 6), (some (26, false))⟩,
          ⟨(some 28), .lenl (.t 27), (some (26, false))⟩,
          ⟨(some 29), .mov (.t 4), (some (26, false))⟩,
          ⟨(some 30), .lenl (.t 29), (some (26, false))⟩,
          ⟨(some 31), .bin .neq (.t 28) (.t 30), (some (26, false))⟩,
          ⟨(some 32), .pick (.t 26) (.c (.bool true)) (.t 31), .none⟩]
def Tryz.fn13_r8 : List AIns :=
   [⟨(some 2), .mov (.c .nils), .none⟩,
           ⟨(some 3), .mov (.c (.bool false)), .none⟩]
def Tryz.fn13_r9 : List AIns :=
   [⟨(some 33), .mov (.t 6), .none⟩,
         ⟨(some 34), .lenl (.t 33), .none⟩,
         ⟨(some 35), .mov (.c (.int .i64 0)), .none⟩]
def Tryz.fn13_r10 : List AIns :=
   [⟨(some 36), .bin .lss (.t 35) (.t 34), .none⟩]
def Tryz.fn13_r11 : List AIns :=
   [⟨(some 37), .mov (.t 35), .none⟩,
             ⟨(some 38), .ia 1 (.t 33) (.t 35), .none⟩,
             ⟨(some 39), .ld1 (.t 38), .none⟩,
             ⟨(some 7), .mov (.t 37), .none⟩,
             ⟨(some 8), .mov (.t 39), .none⟩]
def Tryz.fn13_r12 : List AIns :=
   [⟨(some 40), .mov (.t 8), .none⟩,
              ⟨(some 41), .call 26 [(.t 40)], .none⟩,
              ⟨(some 42), .un .not (.t 41), .none⟩]
def Tryz.fn13_r13 : List AIns :=
   [⟨(some 2), .mov (.c .nils), .none⟩,
               ⟨(some 3), .mov (.c (.bool false)), .none⟩]
def Tryz.fn13_r14 : List AIns :=
   [⟨(some 43), .mov (.t 4), .none⟩,
             ⟨(some 44), .mov (.t 7), .none⟩,
             ⟨(some 45), .mov (.t 4), .none⟩,
             ⟨(some 46), .mov (.t 7), .none⟩,
             ⟨(some 47), .ia 1 (.t 45) (.t 46), .none⟩,
             ⟨(some 48), .ld1 (.t 47), .none⟩,
             ⟨(some 49), .mov (.t 8), .none⟩,
             ⟨(some 50), .lens (.t 49), .none⟩,
             ⟨(some 51), .mx (.t 48) (.t 50), .none⟩,
             ⟨(some 52), .ia 1 (.t 43) (.t 44), .none⟩]
def Tryz.fn13_r15 : List AIns :=
   [⟨.none, .st 1 (.t 52) (.t 51), .none⟩]
def Tryz.fn13_r16 : List AIns :=
   [⟨(some 53), .bin .add (.t 35) (.c (.int .i64 1)), .none⟩,
          ⟨(some 35), .mov (.t 53), .none⟩]
def Tryz.fn13_r17 : List AIns :=
   [⟨(some 54), .bin .add (.t 19) (.c (.int .i64 1)), .none⟩,
      ⟨(some 19), .mov (.t 54), .none⟩]
def Tryz.fn13_r18 : List AIns :=
   [⟨(some 55), .mov (.t 4), .none⟩,
    ⟨(some 2), .mov (.t 55), .none⟩,
    ⟨(some 3), .mov (.c (.bool true)), .none⟩]
def Tryz.fn13_l0 : ACode :=
 (.seq (.seq (.reg Tryz.fn13_r10)
         (.trim [4, 17, 18, 19, 33, 34, 35, 36]))
        (.seq (.cond (.t 36)
          .skip
          (.exit 2))
        (.seq (.block 3
          (.seq (.seq (.reg Tryz.fn13_r11)
           (.trim [4, 7, 8, 17, 18, 19, 33, 34, 35]))
          (.seq (.seq (.seq (.reg Tryz.fn13_r12)
            (.trim [4, 7, 8, 17, 18, 19, 33, 34, 35, 42]))
           (.cond (.t 42)
            (.seq (.seq (.reg Tryz.fn13_r13)
             (.trim [2, 3]))
            .ret)
            .skip))
          (.seq (.seq (.reg Tryz.fn13_r14)
           (.trim [4, 17, 18, 19, 33, 34, 35, 51, 52]))
          (.seq (.reg Tryz.fn13_r15)
          (.trim [4, 17, 18, 19, 33, 34, 35]))))))
        (.seq (.reg Tryz.fn13_r16)
        (.trim [4, 17, 18, 19, 33, 34, 35])))))
def Tryz.fn13_l1 : ACode :=
 (.seq (.seq (.reg Tryz.fn13_r5)
     (.trim [4, 17, 18, 19, 20]))
    (.seq (.cond (.t 20)
      .skip
      (.exit 0))
    (.seq (.block 1
      (.seq (.seq (.reg Tryz.fn13_r6)
       (.trim [4, 6, 17, 18, 19]))
      (.seq (.seq (.seq (.reg Tryz.fn13_r7)
        (.trim [4, 6, 17, 18, 19, 32]))
       (.cond (.t 32)
        (.seq (.seq (.reg Tryz.fn13_r8)
         (.trim [2, 3]))
        .ret)
        .skip))
      (.seq (.seq (.reg Tryz.fn13_r9)
       (.trim [4, 17, 18, 19, 33, 34, 35]))
      (.block 2
       (.loop (some [4, 17, 18, 19, 33, 34, 35])
        Tryz.fn13_l0))))))
    (.seq (.reg Tryz.fn13_r17)
    (.trim [4, 17, 18, 19])))))
def Tryz.fn13 : AFun :=
 ⟨56, [.tmp 2, .tmp 3],
 (.seq (.seq (.reg Tryz.fn13_r0)
  (.trim [0]))
 (.seq (.seq (.seq (.reg Tryz.fn13_r1)
   (.trim [0, 11]))
  (.cond (.t 11)
   (.seq (.seq (.reg Tryz.fn13_r2)
    (.trim [2, 3]))
   .ret)
   .skip))
 (.seq (.seq (.reg Tryz.fn13_r3)
  (.trim [0, 4]))
 (.seq (.seq (.seq (.reg Tryz.fn13_r4)
   (.trim [4, 17, 18, 19]))
  (.block 0
   (.loop (some [4, 17, 18, 19])
    Tryz.fn13_l1)))
 (.seq (.seq (.reg Tryz.fn13_r18)
  (.trim [2, 3]))
 .ret))))), false, .none⟩
/-! signalbench/report.size -/
def Tryz.fn14_r0 : List AIns :=
   [⟨(some 4), .mov (.c (.int .i64 0)), .none⟩]
def Tryz.fn14_r1 : List AIns :=
   [⟨(some 5), .mov (.c (.int .i64 0)), .none⟩]
def Tryz.fn14_r2 : List AIns :=
   [⟨(some 10), .mov (.t 0), .none⟩,
     ⟨(some 11), .lenl (.t 10), .none⟩,
     ⟨(some 12), .mov (.c (.int .i64 0)), .none⟩]
def Tryz.fn14_r3 : List AIns :=
   [⟨(some 13), .bin .lss (.t 12) (.t 11), .none⟩]
def Tryz.fn14_r4 : List AIns :=
   [⟨(some 14), .ia 1 (.t 10) (.t 12), .none⟩,
         ⟨(some 15), .ld1 (.t 14), .none⟩,
         ⟨(some 7), .mov (.t 15), .none⟩]
def Tryz.fn14_r5 : List AIns :=
   [⟨(some 16), .mov (.t 7), .none⟩,
         ⟨(some 17), .lenl (.t 16), .none⟩,
         ⟨(some 18), .mov (.c (.int .i64 0)), .none⟩]
def Tryz.fn14_r6 : List AIns :=
   [⟨(some 19), .bin .lss (.t 18) (.t 17), .none⟩]
def Tryz.fn14_r7 : List AIns :=
   [⟨(some 20), .mov (.t 18), .none⟩,
             ⟨(some 21), .ia 1 (.t 16) (.t 18), .none⟩,
             ⟨(some 22), .ld1 (.t 21), .none⟩,
             ⟨(some 8), .mov (.t 20), .none⟩,
             ⟨(some 9), .mov (.t 22), .none⟩]
def Tryz.fn14_r8 : List AIns :=
   [⟨(some 23), .mov (.t 8), .none⟩,
              ⟨(some 24), .mov (.t 7), .none⟩,
              ⟨(some 25), .lenl (.t 24), .none⟩,
              ⟨(some 26), .bin .sub (.t 25) (.c (.int .i64 1)), .none⟩,
              ⟨(some 27), .bin .eql (.t 23) (.t 26), .none⟩]
def Tryz.fn14_r9 : List AIns :=
   [⟨(some 28), .mov (.t 5), .none⟩,
              ⟨(some 29), .mov (.t 9), .none⟩,
              ⟨(some 30), .lens (.t 29), .none⟩,
              ⟨(some 31), .bin .add (.t 30) (.c (.int .i64 1)), .none⟩,
              ⟨(some 32), .bin .add (.t 28) (.t 31), .none⟩,
              ⟨(some 5), .mov (.t 32), .none⟩]
def Tryz.fn14_r10 : List AIns :=
   [⟨(some 33), .mov (.t 5), .none⟩,
              ⟨(some 34), .mov (.t 1), .none⟩,
              ⟨(some 35), .mov (.t 8), .none⟩,
              ⟨(some 36), .ia 1 (.t 34) (.t 35), .none⟩,
              ⟨(some 37), .ld1 (.t 36), .none⟩,
              ⟨(some 38), .bin .add (.t 37) (.c (.int .i64 2)), .none⟩,
              ⟨(some 39), .bin .add (.t 33) (.t 38), .none⟩,
              ⟨(some 5), .mov (.t 39), .none⟩]
def Tryz.fn14_r11 : List AIns :=
   [⟨(some 40), .mov (.t 5), .none⟩,
             ⟨(some 41), .bin .gtr (.t 40) (.c (.int .i64 1048576)), .none⟩]
def Tryz.fn14_r12 : List AIns :=
   [⟨(some 42), .mov (.t 5), .none⟩,
              ⟨(some 4), .mov (.t 42), .none⟩]
def Tryz.fn14_r13 : List AIns :=
   [⟨(some 43), .bin .add (.t 18) (.c (.int .i64 1)), .none⟩,
          ⟨(some 18), .mov (.t 43), .none⟩]
def Tryz.fn14_r14 : List AIns :=
   [⟨(some 44), .bin .add (.t 12) (.c (.int .i64 1)), .none⟩,
      ⟨(some 12), .mov (.t 44), .none⟩]
def Tryz.fn14_r15 : List AIns :=
   [⟨(some 45), .mov (.t 5), .none⟩,
    ⟨(some 4), .mov (.t 45), .none⟩]
def Tryz.fn14_l0 : ACode :=
 (.seq (.seq (.reg Tryz.fn14_r6)
         (.trim [1, 5, 7, 10, 11, 12, 16, 17, 18, 19]))
        (.seq (.cond (.t 19)
          .skip
          (.exit 2))
        (.seq (.block 3
          (.seq (.seq (.reg Tryz.fn14_r7)
           (.trim [1, 5, 7, 8, 9, 10, 11, 12, 16, 17, 18]))
          (.seq (.seq (.seq (.reg Tryz.fn14_r8)
            (.trim [1, 5, 7, 8, 9, 10, 11, 12, 16, 17, 18, 27]))
           (.cond (.t 27)
            (.seq (.reg Tryz.fn14_r9)
            (.trim [1, 5, 7, 10, 11, 12, 16, 17, 18]))
            (.seq (.reg Tryz.fn14_r10)
            (.trim [1, 5, 7, 10, 11, 12, 16, 17, 18]))))
          (.seq (.seq (.reg Tryz.fn14_r11)
           (.trim [1, 5, 7, 10, 11, 12, 16, 17, 18, 41]))
          (.cond (.t 41)
           (.seq (.seq (.reg Tryz.fn14_r12)
            (.trim [4]))
           .ret)
           .skip)))))
        (.seq (.reg Tryz.fn14_r13)
        (.trim [1, 5, 7, 10, 11, 12, 16, 17, 18])))))
def Tryz.fn14_l1 : ACode :=
 (.seq (.seq (.reg Tryz.fn14_r3)
     (.trim [1, 5, 10, 11, 12, 13]))
    (.seq (.cond (.t 13)
      .skip
      (.exit 0))
    (.seq (.block 1
      (.seq (.seq (.reg Tryz.fn14_r4)
       (.trim [1, 5, 7, 10, 11, 12]))
      (.seq (.seq (.reg Tryz.fn14_r5)
       (.trim [1, 5, 7, 10, 11, 12, 16, 17, 18]))
      (.block 2
       (.loop (some [1, 5, 7, 10, 11, 12, 16, 17, 18])
        Tryz.fn14_l0)))))
    (.seq (.reg Tryz.fn14_r14)
    (.trim [1, 5, 10, 11, 12])))))
def Tryz.fn14 : AFun :=
 ⟨46, [.tmp 4],
 (.seq (.seq (.reg Tryz.fn14_r0)
  (.trim [0, 1]))
 (.seq (.seq (.reg Tryz.fn14_r1)
  (.trim [0, 1, 5]))
 (.seq (.seq (.seq (.reg Tryz.fn14_r2)
   (.trim [1, 5, 10, 11, 12]))
  (.block 0
   (.loop (some [1, 5, 10, 11, 12])
    Tryz.fn14_l1)))
 (.seq (.seq (.reg Tryz.fn14_r15)
  (.trim [4]))
 .ret)))), false, .none⟩
/-! signalbench/report.column -/
def Tryz.fn15_r0 : List AIns :=
   [⟨(some 9), .ld1 (.t 4), .none⟩,
   ⟨(some 10), .ld1 (.t 5), .none⟩,
   ⟨(some 11), .call 22 [(.t 9), (.t 10)], .none⟩]
def Tryz.fn15_r1 : List AIns :=
   [⟨(some 4), .box 47 (.t 0), .none⟩,
    ⟨(some 5), .box 9 (.t 1), .none⟩,
    ⟨(some 6), .box 3 (.t 2), .none⟩,
    ⟨(some 7), .box 4 (.t 3), .none⟩]
def Tryz.fn15_r2 : List AIns :=
   [⟨(some 8), .mkf 27 [(.t 7), (.t 4), (.t 6), (.t 5)], .none⟩]
def Tryz.fn15 : AFun :=
 ⟨12, [],
 (.seq (.reg Tryz.fn15_r0)
 .skip), false, .some ((.seq (.seq (.reg Tryz.fn15_r1)
  .skip)
 (.reg Tryz.fn15_r2)), 8)⟩
/-! (*strings.Builder).WriteByte -/
def Tryz.fn16_r0 : List AIns :=
   [⟨(some 4), .mov (.c .nili), .none⟩]
def Tryz.fn16_r1 : List AIns :=
   [⟨(some 5), .mov (.t 0), .none⟩,
    ⟨(some 6), .call 29 [(.t 5)], .none⟩]
def Tryz.fn16_r2 : List AIns :=
   [⟨(some 7), .mov (.t 0), .none⟩,
     ⟨(some 8), .mov (.t 0), .none⟩,
     ⟨(some 9), .nlc (.t 8), .none⟩,
     ⟨(some 10), .fa 1 (.t 9), .none⟩,
     ⟨(some 11), .ld1 (.t 10), .none⟩,
     ⟨(some 12), .mov (.t 1), .none⟩,
     ⟨(some 13), .bsl 5 1 1 [(.int .u8 0)] [(0, 1, (.t 12))], .none⟩,
     ⟨(some 14), .app 5 1 1 (.t 11) (.t 13), .none⟩,
     ⟨(some 15), .nlc (.t 7), .none⟩,
     ⟨(some 16), .fa 1 (.t 15), .none⟩]
def Tryz.fn16_r3 : List AIns :=
   [⟨.none, .st 1 (.t 16) (.t 14), .none⟩]
def Tryz.fn16_r4 : List AIns :=
   [⟨(some 4), .mov (.c .nili), .none⟩]
def Tryz.fn16 : AFun :=
 ⟨17, [.tmp 4],
 (.seq (.seq (.reg Tryz.fn16_r0)
  (.trim [0, 1]))
 (.seq (.seq (.reg Tryz.fn16_r1)
  (.trim [0, 1]))
 (.seq (.seq (.seq (.reg Tryz.fn16_r2)
   (.trim [14, 16]))
  (.seq (.reg Tryz.fn16_r3)
  (.trim [])))
 (.seq (.seq (.reg Tryz.fn16_r4)
  (.trim [4]))
 .ret)))), false, .none⟩
/-! (*strings.Builder).String -/
def Tryz.fn17_r0 : List AIns :=
   [⟨(some 2), .mov (.c (.str [])), .none⟩]
def Tryz.fn17_r1a : List DIns :=
   ⟨⟨(some 9), .nlc (.t 8), .none⟩, [5], [7, 8, 9, 10, 11], 0⟩ ::
   ⟨⟨(some 10), .fa 1 (.t 9), .none⟩, [6, 5], [8, 9, 10, 11], 0⟩ ::
   ⟨⟨(some 11), .ld1 (.t 10), .none⟩, [7, 6, 5], [9, 10, 11], 1⟩ ::
   ⟨⟨(some 12), .lenl (.t 11), .none⟩, [8, 7, 6, 5], [10, 11], 0⟩ ::
   ⟨⟨(some 13), .ustr 5 (.t 7) (.t 12), .none⟩, [4, 9, 3, 2, 1, 0, 8, 7, 6, 5], [11], 2⟩ ::
   ⟨⟨(some 2), .mov (.t 13), .none⟩, [10, 0, 1, 2, 3, 4, 5, 6, 7, 8, 9], [], 0⟩ ::
   []
def Tryz.fn17_r1 : List DIns :=
   ⟨⟨(some 3), .mov (.t 0), .none⟩, [], [1, 2, 3, 4, 10, 11], 0⟩ ::
   ⟨⟨(some 4), .nlc (.t 3), .none⟩, [0], [2, 3, 4, 10, 11], 0⟩ ::
   ⟨⟨(some 5), .fa 1 (.t 4), .none⟩, [1, 0], [3, 4, 10, 11], 0⟩ ::
   ⟨⟨(some 6), .ld1 (.t 5), .none⟩, [2, 1, 0], [4, 10, 11], 1⟩ ::
   ⟨⟨(some 7), .usd (.t 6), .none⟩, [3, 2, 1, 0], [10, 11], 0⟩ ::
   ⟨⟨(some 8), .mov (.t 0), .none⟩, [], [6, 7, 8, 9, 10, 11], 0⟩ ::
   Tryz.fn17_r1a
def Tryz.fn17 : AFun :=
 ⟨14, [.tmp 2],
 (.seq (.seq (.reg Tryz.fn17_r0)
  (.trim [0]))
 (.seq (.seq (.regd Tryz.fn17_r1)
  (.trim [2]))
 .ret)), false, .none⟩
/-! signalbench/report.cells -/
def Tryz.fn19_r0 : List AIns :=
   [⟨(some 2), .mov (.c .nils), .none⟩]
def Tryz.fn19_r1 : List AIns :=
   [⟨(some 3), .mov (.c .nils), .none⟩]
def Tryz.fn19_r2 : List AIns :=
   [⟨(some 5), .mov (.t 0), .none⟩,
       ⟨(some 6), .call 31 [(.t 5), (.c (.str [32, 32]))], .none⟩,
       ⟨(some 4), .mov (.t 6), .none⟩]
def Tryz.fn19_r3 : List AIns :=
   [⟨(some 7), .mov (.t 4), .none⟩,
        ⟨(some 8), .bin .lss (.t 7) (.c (.int .i64 0)), .none⟩]
def Tryz.fn19_r4 : List AIns :=
   [⟨(some 9), .mov (.t 3), .none⟩,
         ⟨(some 10), .mov (.t 0), .none⟩,
         ⟨(some 11), .bsl 9 1 1 [(.str [])] [(0, 1, (.t 10))], .none⟩,
         ⟨(some 12), .app 9 1 16 (.t 9) (.t 11), .none⟩,
         ⟨(some 2), .mov (.t 12), .none⟩]
def Tryz.fn19_r5 : List AIns :=
   [⟨(some 13), .mov (.t 3), .none⟩,
       ⟨(some 14), .mov (.t 0), .none⟩,
       ⟨(some 15), .mov (.t 4), .none⟩,
       ⟨(some 16), .sub (.t 14) .none (some (.t 15)), .none⟩,
       ⟨(some 17), .bsl 9 1 1 [(.str [])] [(0, 1, (.t 16))], .none⟩,
       ⟨(some 18), .app 9 1 16 (.t 13) (.t 17), .none⟩,
       ⟨(some 3), .mov (.t 18), .none⟩]
def Tryz.fn19_r6 : List AIns :=
   [⟨(some 19), .mov (.t 0), .none⟩,
      ⟨(some 20), .mov (.t 4), .none⟩,
      ⟨(some 21), .sub (.t 19) (some (.t 20)) .none, .none⟩,
      ⟨(some 22), .call 32 [(.t 21), (.c (.str [32]))], .none⟩,
      ⟨(some 0), .mov (.t 22), .none⟩]
def Tryz.fn19_l0 : ACode :=
 (.block 1
    (.seq (.seq (.reg Tryz.fn19_r2)
     (.trim [0, 3, 4]))
    (.seq (.seq (.seq (.reg Tryz.fn19_r3)
      (.trim [0, 3, 4, 8]))
     (.cond (.t 8)
      (.seq (.seq (.reg Tryz.fn19_r4)
       (.trim [2]))
      .ret)
      .skip))
    (.seq (.seq (.reg Tryz.fn19_r5)
     (.trim [0, 3, 4]))
    (.seq (.reg Tryz.fn19_r6)
    (.trim [0, 3]))))))
def Tryz.fn19 : AFun :=
 ⟨23, [.tmp 2],
 (.seq (.seq (.reg Tryz.fn19_r0)
  (.trim [0]))
 (.seq (.seq (.reg Tryz.fn19_r1)
  (.trim [0, 3]))
 (.block 0
  (.loop (some [0, 3])
   Tryz.fn19_l0)))), true, .none⟩
/-! signalbench/report.fits -/
def Tryz.fn20_r0 : List AIns :=
   [⟨(some 1), .box 42 (.t 0), .none⟩,
    ⟨(some 2), .mov (.c (.bool false)), .none⟩]
def Tryz.fn20_r1 : List AIns :=
   [⟨(some 3), .fa 0 (.t 1), .none⟩,
     ⟨(some 4), .ld1 (.t 3), .none⟩,
     ⟨(some 5), .bin .geq (.t 4) (.c (.int .i64 0)), .none⟩,
     ⟨(some 6), .mov (.t 5), .none⟩,
     ⟨(some 7), .fa 0 (.t 1), (some (6, true))⟩,
     ⟨(some 8), .ld1 (.t 7), (some (6, true))⟩,
     ⟨(some 9), .bin .lss (.t 8) (.c (.int .i64 16)), (some (6, true))⟩,
     ⟨(some 10), .pick (.t 6) (.t 9) (.c (.bool false)), .none⟩,
     ⟨(some 11), .mov (.t 10), .none⟩,
     ⟨(some 12), .fa 1 (.t 1), (some (11, true))⟩]
def Tryz.fn20_r2 : List AIns :=
   [⟨(some 13), .ld1 (.t 12), (some (11, true))⟩,
     ⟨(some 14), .bin .geq (.t 13) (.c (.int .i64 0)), (some (11, true))⟩,
     ⟨(some 15), .pick (.t 11) (.t 14) (.c (.bool false)), .none⟩,
     ⟨(some 16), .mov (.t 15), .none⟩,
     ⟨(some 17), .fa 1 (.t 1), (some (16, true))⟩,
     ⟨(some 18), .ld1 (.t 17), (some (16, true))⟩,
     ⟨(some 19), .bin .leq (.t 18) (.c (.int .i64 1099511627776)), (some (16, true))⟩,
     ⟨(some 20), .pick (.t 16) (.t 19) (.c (.bool false)), .none⟩,
     ⟨(some 21), .mov (.t 20), .none⟩,
     ⟨(some 22), .fa 2 (.t 1), (some (21, true))⟩]
def Tryz.fn20_r3 : List AIns :=
   [⟨(some 23), .ldn 7 (.t 22), (some (21, true))⟩,
    ⟨(some 24), .call 33 [(.t 23)], (some (21, true))⟩,
    ⟨(some 25), .pick (.t 21) (.t 24) (.c (.bool false)), .none⟩,
    ⟨(some 2), .mov (.t 25), .none⟩]
def Tryz.fn20 : AFun :=
 ⟨26, [.tmp 2],
 (.seq (.seq (.reg Tryz.fn20_r0)
  (.trim [1]))
 (.seq (.seq (.seq (.reg Tryz.fn20_r1)
   (.trim [1, 11, 12]))
  (.seq (.seq (.reg Tryz.fn20_r2)
   (.trim [21, 22]))
  (.seq (.reg Tryz.fn20_r3)
  (.trim [2]))))
 .ret)), true, .none⟩
/-! signalbench/event.Line -/
def Tryz.fn21_r0 : List AIns :=
   [⟨(some 1), .box 40 (.t 0), .none⟩,
    ⟨(some 2), .mov (.c (.str [])), .none⟩,
    ⟨(some 3), .mov (.c (.int .i64 0)), .none⟩]
def Tryz.fn21_r1 : List AIns :=
   [⟨(some 7), .ldn 7 (.t 1), .none⟩,
     ⟨(some 8), .call 33 [(.t 7)], .none⟩,
     ⟨(some 9), .un .not (.t 8), .none⟩]
def Tryz.fn21_r2 : List AIns :=
   [⟨(some 2), .mov (.c (.str [])), .none⟩,
      ⟨(some 3), .mov (.c (.int .i64 1)), .none⟩]
def Tryz.fn21_r3 : List DIns :=
   [⟨⟨(some 10), .call 34 [], .none⟩, [], [4, 5, 6, 7], 1⟩,
    ⟨⟨(some 11), .fa 0 (.t 1), .none⟩, [], [2, 3, 4, 5, 6, 7], 0⟩,
    ⟨⟨(some 12), .ld1 (.t 11), .none⟩, [1], [3, 4, 5, 6, 7], 1⟩,
    ⟨⟨(some 13), .bin .sub (.t 12) (.c (.int .i64 1)), .none⟩, [2, 1], [4, 5, 6, 7], 0⟩,
    ⟨⟨(some 14), .ia 1 (.t 10) (.t 13), .none⟩, [0, 3, 2, 1], [5, 6, 7], 0⟩,
    ⟨⟨(some 15), .ld1 (.t 14), .none⟩, [4, 0, 3, 2, 1], [6, 7], 2⟩,
    ⟨⟨(some 16), .bsl 9 1 1 [(.str [])] [(0, 1, (.t 15))], .none⟩, [5, 4, 0, 3, 2, 1], [7], 2⟩,
    ⟨⟨(some 4), .mov (.t 16), .none⟩, [6, 0, 1, 2, 3, 4, 5], [], 0⟩]
def Tryz.fn21_r4 : List AIns :=
   [⟨(some 17), .fa 1 (.t 1), .none⟩,
      ⟨(some 18), .ld1 (.t 17), .none⟩,
      ⟨(some 19), .fa 2 (.t 1), .none⟩,
      ⟨(some 20), .ld1 (.t 19), .none⟩,
      ⟨(some 21), .fa 3 (.t 1), .none⟩,
      ⟨(some 22), .ld1 (.t 21), .none⟩,
      ⟨(some 23), .fa 4 (.t 1), .none⟩,
      ⟨(some 24), .ld1 (.t 23), .none⟩,
      ⟨(some 25), .fa 6 (.t 1), .none⟩,
      ⟨(some 26), .ld1 (.t 25), .none⟩]
def Tryz.fn21_r5 : List AIns :=
   [⟨(some 27), .bsl 3 1 5 [(.int .i64 0)] [(0, 1, (.t 18)), (1, 1, (.t 20)), (2, 1, (.t 22)), (3, 1, (.t 24)), (4, 1, (.t 26))], .none⟩,
     ⟨(some 28), .lenl (.t 27), .none⟩,
     ⟨(some 29), .mov (.c (.int .i64 0)), .none⟩]
def Tryz.fn21_r6 : List AIns :=
   [⟨(some 30), .bin .lss (.t 29) (.t 28), .none⟩]
def Tryz.fn21_r7 : List AIns :=
   [⟨(some 31), .ia 1 (.t 27) (.t 29), .none⟩,
         ⟨(some 32), .ld1 (.t 31), .none⟩,
         ⟨(some 6), .mov (.t 32), .none⟩]
def Tryz.fn21_r8 : List AIns :=
   [⟨(some 33), .mov (.t 4), .none⟩,
        ⟨(some 34), .mov (.t 6), .none⟩,
        ⟨(some 35), .call 23 [(.t 34)], .none⟩,
        ⟨(some 36), .bsl 9 1 1 [(.str [])] [(0, 1, (.t 35))], .none⟩,
        ⟨(some 37), .app 9 1 16 (.t 33) (.t 36), .none⟩,
        ⟨(some 4), .mov (.t 37), .none⟩]
def Tryz.fn21_r9 : List AIns :=
   [⟨(some 38), .bin .add (.t 29) (.c (.int .i64 1)), .none⟩,
      ⟨(some 29), .mov (.t 38), .none⟩]
def Tryz.fn21_r10 : List AIns :=
   [⟨(some 39), .mov (.t 4), .none⟩,
    ⟨(some 40), .fa 5 (.t 1), .none⟩,
    ⟨(some 41), .ld1 (.t 40), .none⟩,
    ⟨(some 42), .call 36 [(.t 41)], .none⟩,
    ⟨(some 43), .bsl 9 1 1 [(.str [])] [(0, 1, (.t 42))], .none⟩,
    ⟨(some 44), .app 9 1 16 (.t 39) (.t 43), .none⟩,
    ⟨(some 45), .call 35 [(.t 44), (.c (.str [32]))], .none⟩,
    ⟨(some 2), .mov (.t 45), .none⟩,
    ⟨(some 3), .mov (.c (.int .i64 0)), .none⟩]
def Tryz.fn21_l0 : ACode :=
 (.seq (.seq (.reg Tryz.fn21_r6)
     (.trim [1, 4, 27, 28, 29, 30]))
    (.seq (.cond (.t 30)
      .skip
      (.exit 0))
    (.seq (.block 1
      (.seq (.seq (.reg Tryz.fn21_r7)
       (.trim [1, 4, 6, 27, 28, 29]))
      (.seq (.reg Tryz.fn21_r8)
      (.trim [1, 4, 27, 28, 29]))))
    (.seq (.reg Tryz.fn21_r9)
    (.trim [1, 4, 27, 28, 29])))))
def Tryz.fn21 : AFun :=
 ⟨46, [.tmp 2, .tmp 3],
 (.seq (.seq (.reg Tryz.fn21_r0)
  (.trim [1]))
 (.seq (.seq (.seq (.reg Tryz.fn21_r1)
   (.trim [1, 9]))
  (.cond (.t 9)
   (.seq (.seq (.reg Tryz.fn21_r2)
    (.trim [2, 3]))
   .ret)
   .skip))
 (.seq (.seq (.regd Tryz.fn21_r3)
  (.trim [1, 4]))
 (.seq (.seq (.seq (.seq (.reg Tryz.fn21_r4)
    (.trim [1, 4, 18, 20, 22, 24, 26]))
   (.seq (.reg Tryz.fn21_r5)
   (.trim [1, 4, 27, 28, 29])))
  (.block 0
   (.loop (some [1, 4, 27, 28, 29])
    Tryz.fn21_l0)))
 (.seq (.seq (.reg Tryz.fn21_r10)
  (.trim [2, 3]))
 .ret))))), true, .none⟩
/-! (*strings.Builder).WriteString -/
def Tryz.fn22_r0 : List AIns :=
   [⟨(some 4), .mov (.c (.int .i64 0)), .none⟩,
    ⟨(some 5), .mov (.c .nili), .none⟩]
def Tryz.fn22_r1 : List AIns :=
   [⟨(some 6), .mov (.t 0), .none⟩,
    ⟨(some 7), .call 29 [(.t 6)], .none⟩]
def Tryz.fn22_r2 : List AIns :=
   [⟨(some 8), .mov (.t 0), .none⟩,
    ⟨(some 9), .mov (.t 0), .none⟩,
    ⟨(some 10), .nlc (.t 9), .none⟩,
    ⟨(some 11), .fa 1 (.t 10), .none⟩,
    ⟨(some 12), .ld1 (.t 11), .none⟩,
    ⟨(some 13), .mov (.t 1), .none⟩,
    ⟨(some 14), .app 5 1 1 (.t 12) (.t 13), .none⟩,
    ⟨(some 15), .nlc (.t 8), .none⟩,
    ⟨(some 16), .fa 1 (.t 15), .none⟩,
    ⟨.none, .st 1 (.t 16) (.t 14), .none⟩]
def Tryz.fn22_r3 : List AIns :=
   [⟨(some 17), .mov (.t 1), .none⟩,
    ⟨(some 18), .lens (.t 17), .none⟩,
    ⟨(some 4), .mov (.t 18), .none⟩,
    ⟨(some 5), .mov (.c .nili), .none⟩]
def Tryz.fn22 : AFun :=
 ⟨19, [.tmp 4, .tmp 5],
 (.seq (.seq (.reg Tryz.fn22_r0)
  (.trim [0, 1]))
 (.seq (.seq (.reg Tryz.fn22_r1)
  (.trim [0, 1]))
 (.seq (.seq (.reg Tryz.fn22_r2)
  (.trim [1]))
 (.seq (.seq (.reg Tryz.fn22_r3)
  (.trim [4, 5]))
 .ret)))), false, .none⟩
/-! (*strings.Builder).Len -/
def Tryz.fn24_r0 : List AIns :=
   [⟨(some 2), .mov (.c (.int .i64 0)), .none⟩]
def Tryz.fn24_r1 : List AIns :=
   [⟨(some 3), .mov (.t 0), .none⟩,
    ⟨(some 4), .nlc (.t 3), .none⟩,
    ⟨(some 5), .fa 1 (.t 4), .none⟩,
    ⟨(some 6), .ld1 (.t 5), .none⟩,
    ⟨(some 7), .lenl (.t 6), .none⟩,
    ⟨(some 2), .mov (.t 7), .none⟩]
def Tryz.fn24 : AFun :=
 ⟨8, [.tmp 2],
 (.seq (.seq (.reg Tryz.fn24_r0)
  (.trim [0]))
 (.seq (.seq (.reg Tryz.fn24_r1)
  (.trim [2]))
 .ret)), false, .none⟩
/-! signalbench/report.out -/
def Tryz.fn25_r0 : List AIns :=
   [⟨(some 2), .alloc 42 [(.int .i64 0), (.int .i64 0), (.int .i64 0), (.int .i64 0), (.int .i64 0), (.int .i64 0), (.int .i64 0), (.str []), (.int .i64 0)], .none⟩,
    ⟨(some 3), .mov (.c (.int .i64 0)), .none⟩]
def Tryz.fn25_r1 : List AIns :=
   [⟨(some 12), .mov (.t 0), .none⟩,
    ⟨(some 13), .call 38 [(.t 12), (.c (.str [32])), (.c (.int .i64 3))], .none⟩,
    ⟨(some 4), .mov (.t 13), .none⟩]
def Tryz.fn25_r2 : List AIns :=
   [⟨(some 14), .mov (.t 4), .none⟩,
     ⟨(some 15), .lenl (.t 14), .none⟩,
     ⟨(some 16), .bin .lss (.t 15) (.c (.int .i64 3)), .none⟩]
def Tryz.fn25_r3 : List AIns :=
   [⟨(some 17), .bld [(.int .i64 0), (.int .i64 0), (.int .i64 0), (.int .i64 0), (.int .i64 0), (.int .i64 0), (.int .i64 0), (.str []), (.int .i64 0)] [], .none⟩,
      ⟨.none, .st 9 (.t 2) (.t 17), .none⟩,
      ⟨(some 3), .mov (.c (.int .i64 4)), .none⟩]
def Tryz.fn25_r4 : List AIns :=
   [⟨(some 19), .mov (.t 4), .none⟩,
    ⟨(some 20), .ia 1 (.t 19) (.c (.int .i64 0)), .none⟩,
    ⟨(some 21), .ld1 (.t 20), .none⟩,
    ⟨(some 22), .call 39 [(.t 21)], .none⟩,
    ⟨(some 18), .mov (.t 22), .none⟩,
    ⟨(some 23), .ext 0 (.t 18), .none⟩,
    ⟨(some 24), .ext 1 (.t 18), .none⟩,
    ⟨(some 5), .mov (.t 23), .none⟩,
    ⟨(some 6), .mov (.t 24), .none⟩]
def Tryz.fn25_r5 : List AIns :=
   [⟨(some 26), .mov (.t 4), .none⟩,
    ⟨(some 27), .ia 1 (.t 26) (.c (.int .i64 1)), .none⟩,
    ⟨(some 28), .ld1 (.t 27), .none⟩,
    ⟨(some 29), .call 39 [(.t 28)], .none⟩,
    ⟨(some 25), .mov (.t 29), .none⟩,
    ⟨(some 30), .ext 0 (.t 25), .none⟩,
    ⟨(some 31), .ext 1 (.t 25), .none⟩,
    ⟨(some 7), .mov (.t 30), .none⟩,
    ⟨(some 8), .mov (.t 31), .none⟩]
def Tryz.fn25_r6 : List AIns :=
   [⟨(some 33), .mov (.t 4), .none⟩,
    ⟨(some 34), .ia 1 (.t 33) (.c (.int .i64 2)), .none⟩,
    ⟨(some 35), .ld1 (.t 34), .none⟩,
    ⟨(some 36), .call 40 [(.t 35)], .none⟩,
    ⟨(some 32), .mov (.t 36), .none⟩,
    ⟨(some 37), .ext 0 (.t 32), .none⟩,
    ⟨(some 38), .ext 1 (.t 32), .none⟩,
    ⟨(some 9), .alloc 40 [(.int .i64 0), (.int .i64 0), (.int .i64 0), (.int .i64 0), (.int .i64 0), (.str []), (.int .i64 0)], .none⟩,
    ⟨.none, .st 7 (.t 9) (.t 37), .none⟩,
    ⟨(some 10), .mov (.t 38), .none⟩]
def Tryz.fn25_r7 : List AIns :=
   [⟨(some 39), .mov (.t 6), .none⟩,
     ⟨(some 40), .un .not (.t 39), .none⟩,
     ⟨(some 41), .mov (.t 40), .none⟩,
     ⟨(some 42), .mov (.t 8), (some (41, false))⟩,
     ⟨(some 43), .un .not (.t 42), (some (41, false))⟩,
     ⟨(some 44), .pick (.t 41) (.c (.bool true)) (.t 43), .none⟩,
     ⟨(some 45), .mov (.t 44), .none⟩,
     ⟨(some 46), .mov (.t 10), (some (45, false))⟩,
     ⟨(some 47), .bin .eql (.t 46) (.c (.int .i64 4)), (some (45, false))⟩,
     ⟨(some 48), .pick (.t 45) (.c (.bool true)) (.t 47), .none⟩]
def Tryz.fn25_r8 : List AIns :=
   [⟨(some 49), .bld [(.int .i64 0), (.int .i64 0), (.int .i64 0), (.int .i64 0), (.int .i64 0), (.int .i64 0), (.int .i64 0), (.str []), (.int .i64 0)] [], .none⟩,
      ⟨.none, .st 9 (.t 2) (.t 49), .none⟩,
      ⟨(some 3), .mov (.c (.int .i64 4)), .none⟩]
def Tryz.fn25_r9 : List AIns :=
   [⟨(some 50), .mov (.t 5), .none⟩,
    ⟨(some 51), .mov (.t 7), .none⟩,
    ⟨(some 52), .ldn 7 (.t 9), .none⟩,
    ⟨(some 53), .bld [(.int .i64 0), (.int .i64 0), (.int .i64 0), (.int .i64 0), (.int .i64 0), (.int .i64 0), (.int .i64 0), (.str []), (.int .i64 0)] [(0, 1, (.t 50)), (1, 1, (.t 51)), (2, 7, (.t 52))], .none⟩,
    ⟨(some 11), .alloc 42 [(.int .i64 0), (.int .i64 0), (.int .i64 0), (.int .i64 0), (.int .i64 0), (.int .i64 0), (.int .i64 0), (.str []), (.int .i64 0)], .none⟩,
    ⟨.none, .st 9 (.t 11) (.t 53), .none⟩]
def Tryz.fn25_r10 : List AIns :=
   [⟨(some 54), .mov (.t 10), .none⟩,
     ⟨(some 55), .bin .neq (.t 54) (.c (.int .i64 0)), .none⟩,
     ⟨(some 56), .mov (.t 55), .none⟩,
     ⟨(some 57), .ldn 9 (.t 11), (some (56, false))⟩,
     ⟨(some 58), .call 20 [(.t 57)], (some (56, false))⟩,
     ⟨(some 59), .un .not (.t 58), (some (56, false))⟩,
     ⟨(some 60), .pick (.t 56) (.c (.bool true)) (.t 59), .none⟩]
def Tryz.fn25_r11 : List AIns :=
   [⟨(some 61), .bld [(.int .i64 0), (.int .i64 0), (.int .i64 0), (.int .i64 0), (.int .i64 0), (.int .i64 0), (.int .i64 0), (.str []), (.int .i64 0)] [], .none⟩,
      ⟨.none, .st 9 (.t 2) (.t 61), .none⟩,
      ⟨(some 3), .mov (.c (.int .i64 2)), .none⟩]
def Tryz.fn25_r12 : List AIns :=
   [⟨(some 62), .ldn 9 (.t 11), .none⟩,
    ⟨.none, .st 9 (.t 2) (.t 62), .none⟩,
    ⟨(some 3), .mov (.c (.int .i64 0)), .none⟩]
def Tryz.fn25 : AFun :=
 ⟨63, [.celln 2 9, .tmp 3],
 (.seq (.seq (.reg Tryz.fn25_r0)
  (.trim [0, 2]))
 (.seq (.seq (.reg Tryz.fn25_r1)
  (.trim [2, 4]))
 (.seq (.seq (.seq (.reg Tryz.fn25_r2)
   (.trim [2, 4, 16]))
  (.cond (.t 16)
   (.seq (.seq (.reg Tryz.fn25_r3)
    (.trim [2, 3]))
   .ret)
   .skip))
 (.seq (.seq (.reg Tryz.fn25_r4)
  (.trim [2, 4, 5, 6]))
 (.seq (.seq (.reg Tryz.fn25_r5)
  (.trim [2, 4, 5, 6, 7, 8]))
 (.seq (.seq (.reg Tryz.fn25_r6)
  (.trim [2, 5, 6, 7, 8, 9, 10]))
 (.seq (.seq (.seq (.reg Tryz.fn25_r7)
   (.trim [2, 5, 7, 9, 10, 48]))
  (.cond (.t 48)
   (.seq (.seq (.reg Tryz.fn25_r8)
    (.trim [2, 3]))
   .ret)
   .skip))
 (.seq (.seq (.reg Tryz.fn25_r9)
  (.trim [2, 10, 11]))
 (.seq (.seq (.seq (.reg Tryz.fn25_r10)
   (.trim [2, 11, 60]))
  (.cond (.t 60)
   (.seq (.seq (.reg Tryz.fn25_r11)
    (.trim [2, 3]))
   .ret)
   .skip))
 (.seq (.seq (.reg Tryz.fn25_r12)
  (.trim [2, 3]))
 .ret)))))))))), true, .none⟩
/-! signalbench/report.cell -/
def Tryz.fn26_r0 : List AIns :=
   [⟨(some 2), .mov (.c (.bool false)), .none⟩]
def Tryz.fn26_r1 : List AIns :=
   [⟨(some 4), .mov (.t 0), .none⟩,
      ⟨(some 5), .bin .eql (.t 4) (.c (.str [])), .none⟩,
      ⟨(some 6), .mov (.t 5), .none⟩,
      ⟨(some 7), .mov (.t 0), (some (6, false))⟩,
      ⟨(some 8), .lens (.t 7), (some (6, false))⟩,
      ⟨(some 9), .bin .gtr (.t 8) (.c (.int .i64 1048576)), (some (6, false))⟩,
      ⟨(some 10), .pick (.t 6) (.c (.bool true)) (.t 9), .none⟩,
      ⟨(some 11), .mov (.t 10), .none⟩,
      ⟨(some 12), .mov (.t 0), (some (11, false))⟩,
      ⟨(some 13), .ids (.t 12) (.c (.int .i64 0)), (some (11, false))⟩]
def Tryz.fn26_r2 : List AIns :=
   [⟨(some 14), .bin .eql (.t 13) (.c (.int .u8 32)), (some (11, false))⟩,
      ⟨(some 15), .pick (.t 11) (.c (.bool true)) (.t 14), .none⟩,
      ⟨(some 16), .mov (.t 15), .none⟩,
      ⟨(some 17), .mov (.t 0), (some (16, false))⟩,
      ⟨(some 18), .mov (.t 0), (some (16, false))⟩,
      ⟨(some 19), .lens (.t 18), (some (16, false))⟩,
      ⟨(some 20), .bin .sub (.t 19) (.c (.int .i64 1)), (some (16, false))⟩,
      ⟨(some 21), .ids (.t 17) (.t 20), (some (16, false))⟩,
      ⟨(some 22), .bin .eql (.t 21) (.c (.int .u8 32)), (some (16, false))⟩,
      ⟨(some 23), .pick (.t 16) (.c (.bool true)) (.t 22), .none⟩]
def Tryz.fn26_r3 : List AIns :=
   [⟨(some 24), .mov (.t 23), .none⟩,
     ⟨(some 25), .mov (.t 0), (some (24, false))⟩,
     ⟨(some 26), .call 41 [(.t 25), (.c (.str [32, 32]))], (some (24, false))⟩,
     ⟨(some 27), .pick (.t 24) (.c (.bool true)) (.t 26), .none⟩]
def Tryz.fn26_r4 : List AIns :=
   [⟨(some 2), .mov (.c (.bool false)), .none⟩]
def Tryz.fn26_r5 : List AIns :=
   [⟨(some 28), .mov (.t 0), .none⟩,
     ⟨(some 29), .lens (.t 28), .none⟩,
     ⟨(some 30), .mov (.c (.int .i64 0)), .none⟩]
def Tryz.fn26_r6 : List AIns :=
   [⟨(some 31), .bin .lss (.t 30) (.t 29), .none⟩]
def Tryz.fn26_r7 : List AIns :=
   [⟨(some 32), .mov (.t 30), .none⟩,
         ⟨(some 3), .mov (.t 32), .none⟩]
def Tryz.fn26_r8 : List AIns :=
   [⟨(some 33), .mov (.t 0), .none⟩,
         ⟨(some 34), .mov (.t 3), .none⟩,
         ⟨(some 35), .ids (.t 33) (.t 34), .none⟩,
         ⟨(some 36), .bin .lss (.t 35) (.c (.int .u8 32)), .none⟩,
         ⟨(some 37), .mov (.t 36), .none⟩,
         ⟨(some 38), .mov (.t 0), (some (37, false))⟩,
         ⟨(some 39), .mov (.t 3), (some (37, false))⟩,
         ⟨(some 40), .ids (.t 38) (.t 39), (some (37, false))⟩,
         ⟨(some 41), .bin .gtr (.t 40) (.c (.int .u8 126)), (some (37, false))⟩,
         ⟨(some 42), .pick (.t 37) (.c (.bool true)) (.t 41), .none⟩]
def Tryz.fn26_r9 : List AIns :=
   [⟨(some 2), .mov (.c (.bool false)), .none⟩]
def Tryz.fn26_r10 : List AIns :=
   [⟨(some 43), .bin .add (.t 30) (.c (.int .i64 1)), .none⟩,
      ⟨(some 30), .mov (.t 43), .none⟩]
def Tryz.fn26_r11 : List AIns :=
   [⟨(some 2), .mov (.c (.bool true)), .none⟩]
def Tryz.fn26_l0 : ACode :=
 (.seq (.seq (.reg Tryz.fn26_r6)
     (.trim [0, 29, 30, 31]))
    (.seq (.cond (.t 31)
      .skip
      (.exit 0))
    (.seq (.block 1
      (.seq (.seq (.reg Tryz.fn26_r7)
       (.trim [0, 3, 29, 30]))
      (.seq (.seq (.reg Tryz.fn26_r8)
       (.trim [0, 29, 30, 42]))
      (.cond (.t 42)
       (.seq (.seq (.reg Tryz.fn26_r9)
        (.trim [2]))
       .ret)
       .skip))))
    (.seq (.reg Tryz.fn26_r10)
    (.trim [0, 29, 30])))))
def Tryz.fn26 : AFun :=
 ⟨44, [.tmp 2],
 (.seq (.seq (.reg Tryz.fn26_r0)
  (.trim [0]))
 (.seq (.seq (.seq (.seq (.reg Tryz.fn26_r1)
    (.trim [0, 11, 13]))
   (.seq (.seq (.reg Tryz.fn26_r2)
    (.trim [0, 23]))
   (.seq (.reg Tryz.fn26_r3)
   (.trim [0, 27]))))
  (.cond (.t 27)
   (.seq (.seq (.reg Tryz.fn26_r4)
    (.trim [2]))
   .ret)
   .skip))
 (.seq (.seq (.seq (.reg Tryz.fn26_r5)
   (.trim [0, 29, 30]))
  (.block 0
   (.loop (some [0, 29, 30])
    Tryz.fn26_l0)))
 (.seq (.seq (.reg Tryz.fn26_r11)
  (.trim [2]))
 .ret)))), true, .none⟩
/-! signalbench/report.column$1 -/
def Tryz.fn27_r0 : List AIns :=
   [⟨(some 4), .ld1 (.t 0), .none⟩,
    ⟨(some 5), .un .not (.t 4), .none⟩]
def Tryz.fn27_r1 : List DIns :=
   [⟨⟨(some 6), .ld1 (.t 1), .none⟩, [], [7], 1⟩,
    ⟨⟨(some 7), .ld1 (.t 2), .none⟩, [], [4, 5, 6, 7], 1⟩,
    ⟨⟨(some 8), .ld1 (.t 3), .none⟩, [], [3, 4, 5, 6, 7], 1⟩,
    ⟨⟨(some 9), .lens (.t 8), .none⟩, [2], [4, 5, 6, 7], 0⟩,
    ⟨⟨(some 10), .bin .sub (.t 7) (.t 9), .none⟩, [1, 3, 2], [5, 6, 7], 0⟩,
    ⟨⟨(some 11), .bin .add (.t 10) (.c (.int .i64 2)), .none⟩, [4, 1, 3, 2], [6, 7], 0⟩,
    ⟨⟨(some 12), .call 28 [(.c (.str [32])), (.t 11)], .none⟩, [5, 4, 1, 3, 2], [7], 1⟩,
    ⟨⟨(some 13), .call 22 [(.t 6), (.t 12)], .none⟩, [0, 6, 5, 4, 1, 3, 2], [], 2⟩]
def Tryz.fn27 : AFun :=
 ⟨14, [],
 (.seq (.seq (.reg Tryz.fn27_r0)
  (.trim [1, 2, 3, 5]))
 (.cond (.t 5)
  (.seq (.regd Tryz.fn27_r1)
  (.trim []))
  .skip)), false, .none⟩
/-! (*strings.Builder).copyCheck -/
def Tryz.fn29_r0 : List AIns :=
   [⟨(some 2), .mov (.t 0), .none⟩,
    ⟨(some 3), .nlc (.t 2), .none⟩,
    ⟨(some 4), .fa 0 (.t 3), .none⟩,
    ⟨(some 5), .ld1 (.t 4), .none⟩,
    ⟨(some 6), .eqv false true .ptr (.t 5) (.c .nilp), .none⟩]
def Tryz.fn29_r1 : List AIns :=
   [⟨(some 7), .mov (.t 0), .none⟩,
    ⟨(some 8), .mov (.t 0), .none⟩,
    ⟨(some 9), .tous (.t 8), .none⟩,
    ⟨(some 10), .call 45 [(.t 9)], .none⟩,
    ⟨(some 11), .frus 50 2 (.t 10), .none⟩,
    ⟨(some 12), .nlc (.t 7), .none⟩,
    ⟨(some 13), .fa 0 (.t 12), .none⟩,
    ⟨.none, .st 1 (.t 13) (.t 11), .none⟩]
def Tryz.fn29_r2 : List AIns :=
   [⟨(some 14), .mov (.t 0), .none⟩,
     ⟨(some 15), .nlc (.t 14), .none⟩,
     ⟨(some 16), .fa 0 (.t 15), .none⟩,
     ⟨(some 17), .ld1 (.t 16), .none⟩,
     ⟨(some 18), .mov (.t 0), .none⟩,
     ⟨(some 19), .eqv true false .ptr (.t 17) (.t 18), .none⟩]
def Tryz.fn29_r3 : List AIns :=
   [⟨.none, .ext 0 (.c .nilp), .none⟩]
def Tryz.fn29 : AFun :=
 ⟨20, [],
 (.seq (.seq (.reg Tryz.fn29_r0)
  (.trim [0, 6]))
 (.cond (.t 6)
  (.seq (.reg Tryz.fn29_r1)
  (.trim []))
  (.seq (.seq (.reg Tryz.fn29_r2)
   (.trim [19]))
  (.cond (.t 19)
   (.seq (.reg Tryz.fn29_r3)
   (.trim []))
   .skip)))), false, .none⟩
/-! signalbench/event.Valid -/
def Tryz.fn33_r0 : List AIns :=
   [⟨(some 1), .box 40 (.t 0), .none⟩,
    ⟨(some 2), .mov (.c (.bool false)), .none⟩]
def Tryz.fn33_r1 : List AIns :=
   [⟨(some 4), .fa 0 (.t 1), .none⟩,
      ⟨(some 5), .ld1 (.t 4), .none⟩,
      ⟨(some 6), .bin .lss (.t 5) (.c (.int .i64 1)), .none⟩,
      ⟨(some 7), .mov (.t 6), .none⟩,
      ⟨(some 8), .fa 0 (.t 1), (some (7, false))⟩,
      ⟨(some 9), .ld1 (.t 8), (some (7, false))⟩,
      ⟨(some 10), .bin .gtr (.t 9) (.c (.int .i64 8)), (some (7, false))⟩,
      ⟨(some 11), .pick (.t 7) (.c (.bool true)) (.t 10), .none⟩,
      ⟨(some 3), .mov (.t 11), .none⟩]
def Tryz.fn33_r2 : List AIns :=
   [⟨(some 2), .mov (.c (.bool false)), .none⟩]
def Tryz.fn33_r3 : List AIns :=
   [⟨(some 13), .fa 1 (.t 1), .none⟩,
        ⟨(some 14), .ld1 (.t 13), .none⟩,
        ⟨(some 15), .bin .lss (.t 14) (.c (.int .i64 0)), .none⟩,
        ⟨(some 16), .mov (.t 15), .none⟩,
        ⟨(some 17), .fa 1 (.t 1), (some (16, false))⟩,
        ⟨(some 18), .ld1 (.t 17), (some (16, false))⟩,
        ⟨(some 19), .fa 2 (.t 1), (some (16, false))⟩,
        ⟨(some 20), .ld1 (.t 19), (some (16, false))⟩,
        ⟨(some 21), .bin .gtr (.t 18) (.t 20), (some (16, false))⟩,
        ⟨(some 22), .pick (.t 16) (.c (.bool true)) (.t 21), .none⟩]
def Tryz.fn33_r4 : List AIns :=
   [⟨(some 23), .mov (.t 22), .none⟩,
       ⟨(some 24), .fa 2 (.t 1), (some (23, false))⟩,
       ⟨(some 25), .ld1 (.t 24), (some (23, false))⟩,
       ⟨(some 26), .bin .gtr (.t 25) (.c (.int .i64 1099511627776)), (some (23, false))⟩,
       ⟨(some 27), .pick (.t 23) (.c (.bool true)) (.t 26), .none⟩,
       ⟨(some 12), .mov (.t 27), .none⟩]
def Tryz.fn33_r5 : List AIns :=
   [⟨(some 2), .mov (.c (.bool false)), .none⟩]
def Tryz.fn33_r6 : List AIns :=
   [⟨(some 29), .fa 3 (.t 1), .none⟩,
         ⟨(some 30), .ld1 (.t 29), .none⟩,
         ⟨(some 31), .bin .lss (.t 30) (.c (.int .i64 (-9007199254740992))), .none⟩,
         ⟨(some 32), .mov (.t 31), .none⟩,
         ⟨(some 33), .fa 3 (.t 1), (some (32, false))⟩,
         ⟨(some 34), .ld1 (.t 33), (some (32, false))⟩,
         ⟨(some 35), .bin .gtr (.t 34) (.c (.int .i64 9007199254740992)), (some (32, false))⟩,
         ⟨(some 36), .pick (.t 32) (.c (.bool true)) (.t 35), .none⟩,
         ⟨(some 37), .mov (.t 36), .none⟩,
         ⟨(some 38), .fa 4 (.t 1), (some (37, false))⟩]
def Tryz.fn33_r7 : List AIns :=
   [⟨(some 39), .ld1 (.t 38), (some (37, false))⟩,
        ⟨(some 40), .bin .lss (.t 39) (.c (.int .i64 (-9007199254740992))), (some (37, false))⟩,
        ⟨(some 41), .pick (.t 37) (.c (.bool true)) (.t 40), .none⟩,
        ⟨(some 42), .mov (.t 41), .none⟩,
        ⟨(some 43), .fa 4 (.t 1), (some (42, false))⟩,
        ⟨(some 44), .ld1 (.t 43), (some (42, false))⟩,
        ⟨(some 45), .bin .gtr (.t 44) (.c (.int .i64 9007199254740992)), (some (42, false))⟩,
        ⟨(some 46), .pick (.t 42) (.c (.bool true)) (.t 45), .none⟩,
        ⟨(some 28), .mov (.t 46), .none⟩]
def Tryz.fn33_r8 : List AIns :=
   [⟨(some 2), .mov (.c (.bool false)), .none⟩]
def Tryz.fn33_r9 : List AIns :=
   [⟨(some 47), .fa 5 (.t 1), .none⟩,
     ⟨(some 48), .ld1 (.t 47), .none⟩,
     ⟨(some 49), .lens (.t 48), .none⟩,
     ⟨(some 50), .bin .leq (.t 49) (.c (.int .i64 4096)), .none⟩,
     ⟨(some 51), .mov (.t 50), .none⟩,
     ⟨(some 52), .fa 6 (.t 1), (some (51, true))⟩,
     ⟨(some 53), .ld1 (.t 52), (some (51, true))⟩,
     ⟨(some 54), .bin .geq (.t 53) (.c (.int .i64 0)), (some (51, true))⟩,
     ⟨(some 55), .pick (.t 51) (.t 54) (.c (.bool false)), .none⟩,
     ⟨(some 56), .mov (.t 55), .none⟩]
def Tryz.fn33_r10 : List AIns :=
   [⟨(some 57), .fa 6 (.t 1), (some (56, true))⟩,
    ⟨(some 58), .ld1 (.t 57), (some (56, true))⟩,
    ⟨(some 59), .bin .leq (.t 58) (.c (.int .i64 12)), (some (56, true))⟩,
    ⟨(some 60), .pick (.t 56) (.t 59) (.c (.bool false)), .none⟩,
    ⟨(some 2), .mov (.t 60), .none⟩]
def Tryz.fn33 : AFun :=
 ⟨61, [.tmp 2],
 (.seq (.seq (.reg Tryz.fn33_r0)
  (.trim [1]))
 (.seq (.block 0
   (.seq (.seq (.reg Tryz.fn33_r1)
    (.trim [1, 3]))
   (.cond (.t 3)
    (.seq (.seq (.reg Tryz.fn33_r2)
     (.trim [2]))
    .ret)
    (.seq (.seq (.seq (.reg Tryz.fn33_r3)
      (.trim [1, 22]))
     (.seq (.reg Tryz.fn33_r4)
     (.trim [1, 12])))
    (.cond (.t 12)
     (.seq (.seq (.reg Tryz.fn33_r5)
      (.trim [2]))
     .ret)
     (.seq (.seq (.seq (.reg Tryz.fn33_r6)
       (.trim [1, 37, 38]))
      (.seq (.reg Tryz.fn33_r7)
      (.trim [1, 28])))
     (.cond (.t 28)
      (.seq (.seq (.reg Tryz.fn33_r8)
       (.trim [2]))
      .ret)
      .skip)))))))
 (.seq (.seq (.seq (.reg Tryz.fn33_r9)
   (.trim [1, 56]))
  (.seq (.reg Tryz.fn33_r10)
  (.trim [2])))
 .ret))), true, .none⟩
/-! signalbench/event.kinds -/
def Tryz.fn34_r0 : List AIns :=
   [⟨(some 0), .mov (.c .nils), .none⟩]
def Tryz.fn34_r1 : List AIns :=
   [⟨(some 1), .bsl 9 1 8 [(.str [])] [(0, 1, (.c (.str [108, 101, 118, 101, 108]))), (1, 1, (.c (.str [98, 105, 116]))), (2, 1, (.c (.str [98, 121, 116, 101]))), (3, 1, (.c (.str [109, 97, 114, 107]))), (4, 1, (.c (.str [102, 114, 97, 109, 101]))), (5, 1, (.c (.str [112, 97, 99, 107, 101, 116]))), (6, 1, (.c (.str [99, 111, 109, 109, 97, 110, 100]))), (7, 1, (.c (.str [112, 97, 105, 114])))], .none⟩,
    ⟨(some 0), .mov (.t 1), .none⟩]
def Tryz.fn34 : AFun :=
 ⟨2, [.tmp 0],
 (.seq (.seq (.reg Tryz.fn34_r0)
  (.trim []))
 (.seq (.seq (.reg Tryz.fn34_r1)
  (.trim [0]))
 .ret)), true, .none⟩
/-! signalbench/lex.Quote -/
def Tryz.fn36_r0 : List AIns :=
   [⟨(some 2), .mov (.c (.str [])), .none⟩]
def Tryz.fn36_r1 : List AIns :=
   [⟨(some 3), .alloc 50 [.nilp, .nils], .none⟩]
def Tryz.fn36_r2 : List AIns :=
   [⟨(some 6), .call 16 [(.t 3), (.c (.int .u8 34))], .none⟩]
def Tryz.fn36_r3 : List AIns :=
   [⟨(some 7), .mov (.t 0), .none⟩,
     ⟨(some 8), .lens (.t 7), .none⟩,
     ⟨(some 9), .mov (.c (.int .i64 0)), .none⟩]
def Tryz.fn36_r4 : List AIns :=
   [⟨(some 10), .bin .lss (.t 9) (.t 8), .none⟩]
def Tryz.fn36_r5 : List AIns :=
   [⟨(some 11), .mov (.t 9), .none⟩,
         ⟨(some 4), .mov (.t 11), .none⟩]
def Tryz.fn36_r6 : List AIns :=
   [⟨(some 12), .mov (.t 0), .none⟩,
         ⟨(some 13), .mov (.t 4), .none⟩,
         ⟨(some 14), .ids (.t 12) (.t 13), .none⟩,
         ⟨(some 5), .mov (.t 14), .none⟩]
def Tryz.fn36_r7 : List AIns :=
   [⟨(some 25), .mov (.t 5), .none⟩,
          ⟨(some 26), .conv .i32 (.t 25), .none⟩,
          ⟨(some 27), .call 52 [(.t 26)], .none⟩,
          ⟨(some 24), .mov (.t 27), .none⟩]
def Tryz.fn36_r8 : List AIns :=
   [⟨(some 28), .mov (.t 5), .none⟩,
          ⟨(some 29), .call 16 [(.t 3), (.t 28)], .none⟩]
def Tryz.fn36_r9 : List AIns :=
   [⟨(some 31), .mov (.t 5), .none⟩,
           ⟨(some 32), .bin .eql (.t 31) (.c (.int .u8 34)), .none⟩,
           ⟨(some 33), .mov (.t 32), .none⟩,
           ⟨(some 34), .mov (.t 5), (some (33, false))⟩,
           ⟨(some 35), .bin .eql (.t 34) (.c (.int .u8 92)), (some (33, false))⟩,
           ⟨(some 36), .pick (.t 33) (.c (.bool true)) (.t 35), .none⟩,
           ⟨(some 30), .mov (.t 36), .none⟩]
def Tryz.fn36_r10 : List AIns :=
   [⟨(some 37), .call 16 [(.t 3), (.c (.int .u8 92))], .none⟩]
def Tryz.fn36_r11 : List AIns :=
   [⟨(some 38), .mov (.t 5), .none⟩,
           ⟨(some 39), .call 16 [(.t 3), (.t 38)], .none⟩]
def Tryz.fn36_r12 : List AIns :=
   [⟨(some 41), .mov (.t 5), .none⟩,
            ⟨(some 42), .bin .eql (.t 41) (.c (.int .u8 10)), .none⟩,
            ⟨(some 40), .mov (.t 42), .none⟩]
def Tryz.fn36_r13 : List AIns :=
   [⟨(some 43), .call 22 [(.t 3), (.c (.str [92, 110]))], .none⟩]
def Tryz.fn36_r14 : List AIns :=
   [⟨(some 15), .call 22 [(.t 3), (.c (.str [92, 120]))], .none⟩]
def Tryz.fn36_r15 : List AIns :=
   [⟨(some 16), .mov (.t 5), .none⟩,
             ⟨(some 17), .bin .shr (.t 16) (.c (.int .u64 4)), .none⟩,
             ⟨(some 18), .ids (.c (.str [48, 49, 50, 51, 52, 53, 54, 55, 56, 57, 97, 98, 99, 100, 101, 102])) (.t 17), .none⟩,
             ⟨(some 19), .call 16 [(.t 3), (.t 18)], .none⟩]
def Tryz.fn36_r16 : List AIns :=
   [⟨(some 20), .mov (.t 5), .none⟩,
            ⟨(some 21), .bin .and (.t 20) (.c (.int .u8 15)), .none⟩,
            ⟨(some 22), .ids (.c (.str [48, 49, 50, 51, 52, 53, 54, 55, 56, 57, 97, 98, 99, 100, 101, 102])) (.t 21), .none⟩,
            ⟨(some 23), .call 16 [(.t 3), (.t 22)], .none⟩]
def Tryz.fn36_r17 : List AIns :=
   [⟨(some 44), .bin .add (.t 9) (.c (.int .i64 1)), .none⟩,
      ⟨(some 9), .mov (.t 44), .none⟩]
def Tryz.fn36_r18 : List AIns :=
   [⟨(some 45), .call 16 [(.t 3), (.c (.int .u8 34))], .none⟩]
def Tryz.fn36_r19 : List AIns :=
   [⟨(some 46), .call 17 [(.t 3)], .none⟩,
    ⟨(some 2), .mov (.t 46), .none⟩]
def Tryz.fn36_l0 : ACode :=
 (.seq (.seq (.reg Tryz.fn36_r4)
     (.trim [0, 3, 8, 9, 10]))
    (.seq (.cond (.t 10)
      .skip
      (.exit 0))
    (.seq (.block 1
      (.seq (.seq (.reg Tryz.fn36_r5)
       (.trim [0, 3, 4, 8, 9]))
      (.seq (.seq (.reg Tryz.fn36_r6)
       (.trim [0, 3, 5, 8, 9]))
      (.block 2
       (.seq (.seq (.reg Tryz.fn36_r7)
        (.trim [0, 3, 5, 8, 9, 24]))
       (.cond (.t 24)
        (.seq (.reg Tryz.fn36_r8)
        (.trim [0, 3, 8, 9]))
        (.seq (.seq (.reg Tryz.fn36_r9)
         (.trim [0, 3, 5, 8, 9, 30]))
        (.cond (.t 30)
         (.seq (.seq (.reg Tryz.fn36_r10)
          (.trim [0, 3, 5, 8, 9]))
         (.seq (.reg Tryz.fn36_r11)
         (.trim [0, 3, 8, 9])))
         (.seq (.seq (.reg Tryz.fn36_r12)
          (.trim [0, 3, 5, 8, 9, 40]))
         (.cond (.t 40)
          (.seq (.reg Tryz.fn36_r13)
          (.trim [0, 3, 8, 9]))
          (.seq (.seq (.reg Tryz.fn36_r14)
           (.trim [0, 3, 5, 8, 9]))
          (.seq (.seq (.reg Tryz.fn36_r15)
           (.trim [0, 3, 5, 8, 9]))
          (.seq (.reg Tryz.fn36_r16)
          (.trim [0, 3, 8, 9]))))))))))))))
    (.seq (.reg Tryz.fn36_r17)
    (.trim [0, 3, 8, 9])))))
def Tryz.fn36 : AFun :=
 ⟨47, [.tmp 2],
 (.seq (.seq (.reg Tryz.fn36_r0)
  (.trim [0]))
 (.seq (.seq (.reg Tryz.fn36_r1)
  (.trim [0, 3]))
 (.seq (.seq (.reg Tryz.fn36_r2)
  (.trim [0, 3]))
 (.seq (.seq (.seq (.reg Tryz.fn36_r3)
   (.trim [0, 3, 8, 9]))
  (.block 0
   (.loop (some [0, 3, 8, 9])
    Tryz.fn36_l0)))
 (.seq (.seq (.reg Tryz.fn36_r18)
  (.trim [3]))
 (.seq (.seq (.reg Tryz.fn36_r19)
  (.trim [2]))
 .ret)))))), true, .none⟩
/-! signalbench/report.number -/
def Tryz.fn39_r0 : List AIns :=
   [⟨(some 2), .mov (.c (.int .i64 0)), .none⟩,
    ⟨(some 3), .mov (.c (.bool false)), .none⟩]
def Tryz.fn39_r1 : List AIns :=
   [⟨(some 6), .mov (.t 0), .none⟩,
      ⟨(some 7), .bin .eql (.t 6) (.c (.str [])), .none⟩,
      ⟨(some 8), .mov (.t 7), .none⟩,
      ⟨(some 9), .mov (.t 0), (some (8, false))⟩,
      ⟨(some 10), .lens (.t 9), (some (8, false))⟩,
      ⟨(some 11), .bin .gtr (.t 10) (.c (.int .i64 1)), (some (8, false))⟩,
      ⟨(some 12), .mov (.t 11), (some (8, false))⟩,
      ⟨(some 13), .mov (.t 0), (some (12, true))⟩,
      ⟨(some 14), .ids (.t 13) (.c (.int .i64 0)), (some (12, true))⟩,
      ⟨(some 15), .bin .eql (.t 14) (.c (.int .u8 48)), (some (12, true))⟩]
def Tryz.fn39_r2 : List AIns :=
   [⟨(some 16), .pick (.t 12) (.t 15) (.c (.bool false)), (some (8, false))⟩,
     ⟨(some 17), .pick (.t 8) (.c (.bool true)) (.t 16), .none⟩]
def Tryz.fn39_r3 : List AIns :=
   [⟨(some 2), .mov (.c (.int .i64 0)), .none⟩,
      ⟨(some 3), .mov (.c (.bool false)), .none⟩]
def Tryz.fn39_r4 : List AIns :=
   [⟨(some 4), .mov (.c (.int .i64 0)), .none⟩]
def Tryz.fn39_r5 : List AIns :=
   [⟨(some 18), .mov (.t 0), .none⟩,
     ⟨(some 19), .lens (.t 18), .none⟩,
     ⟨(some 20), .mov (.c (.int .i64 0)), .none⟩]
def Tryz.fn39_r6 : List AIns :=
   [⟨(some 21), .bin .lss (.t 20) (.t 19), .none⟩]
def Tryz.fn39_r7 : List AIns :=
   [⟨(some 22), .mov (.t 20), .none⟩,
         ⟨(some 5), .mov (.t 22), .none⟩]
def Tryz.fn39_r8 : List AIns :=
   [⟨(some 23), .mov (.t 0), .none⟩,
          ⟨(some 24), .mov (.t 5), .none⟩,
          ⟨(some 25), .ids (.t 23) (.t 24), .none⟩,
          ⟨(some 26), .bin .lss (.t 25) (.c (.int .u8 48)), .none⟩,
          ⟨(some 27), .mov (.t 26), .none⟩,
          ⟨(some 28), .mov (.t 0), (some (27, false))⟩,
          ⟨(some 29), .mov (.t 5), (some (27, false))⟩,
          ⟨(some 30), .ids (.t 28) (.t 29), (some (27, false))⟩,
          ⟨(some 31), .bin .gtr (.t 30) (.c (.int .u8 57)), (some (27, false))⟩,
          ⟨(some 32), .pick (.t 27) (.c (.bool true)) (.t 31), .none⟩]
def Tryz.fn39_r9 : List AIns :=
   [⟨(some 2), .mov (.c (.int .i64 0)), .none⟩,
           ⟨(some 3), .mov (.c (.bool false)), .none⟩]
def Tryz.fn39_r10 : List AIns :=
   [⟨(some 33), .mov (.t 4), .none⟩,
        ⟨(some 34), .bin .mul (.c (.int .i64 10)) (.t 33), .none⟩,
        ⟨(some 35), .mov (.t 0), .none⟩,
        ⟨(some 36), .mov (.t 5), .none⟩,
        ⟨(some 37), .ids (.t 35) (.t 36), .none⟩,
        ⟨(some 38), .bin .sub (.t 37) (.c (.int .u8 48)), .none⟩,
        ⟨(some 39), .conv .i64 (.t 38), .none⟩,
        ⟨(some 40), .bin .add (.t 34) (.t 39), .none⟩,
        ⟨(some 41), .mn (.t 40) (.c (.int .i64 1099511627777)), .none⟩,
        ⟨(some 4), .mov (.t 41), .none⟩]
def Tryz.fn39_r11 : List AIns :=
   [⟨(some 42), .bin .add (.t 20) (.c (.int .i64 1)), .none⟩,
      ⟨(some 20), .mov (.t 42), .none⟩]
def Tryz.fn39_r12 : List AIns :=
   [⟨(some 43), .mov (.t 4), .none⟩,
    ⟨(some 2), .mov (.t 43), .none⟩,
    ⟨(some 3), .mov (.c (.bool true)), .none⟩]
def Tryz.fn39_l0 : ACode :=
 (.seq (.seq (.reg Tryz.fn39_r6)
     (.trim [0, 4, 19, 20, 21]))
    (.seq (.cond (.t 21)
      .skip
      (.exit 0))
    (.seq (.block 1
      (.seq (.seq (.reg Tryz.fn39_r7)
       (.trim [0, 4, 5, 19, 20]))
      (.seq (.seq (.seq (.reg Tryz.fn39_r8)
        (.trim [0, 4, 5, 19, 20, 32]))
       (.cond (.t 32)
        (.seq (.seq (.reg Tryz.fn39_r9)
         (.trim [2, 3]))
        .ret)
        .skip))
      (.seq (.reg Tryz.fn39_r10)
      (.trim [0, 4, 19, 20])))))
    (.seq (.reg Tryz.fn39_r11)
    (.trim [0, 4, 19, 20])))))
def Tryz.fn39 : AFun :=
 ⟨44, [.tmp 2, .tmp 3],
 (.seq (.seq (.reg Tryz.fn39_r0)
  (.trim [0]))
 (.seq (.seq (.seq (.seq (.reg Tryz.fn39_r1)
    (.trim [0, 8, 12, 15]))
   (.seq (.reg Tryz.fn39_r2)
   (.trim [0, 17])))
  (.cond (.t 17)
   (.seq (.seq (.reg Tryz.fn39_r3)
    (.trim [2, 3]))
   .ret)
   .skip))
 (.seq (.seq (.reg Tryz.fn39_r4)
  (.trim [0, 4]))
 (.seq (.seq (.seq (.reg Tryz.fn39_r5)
   (.trim [0, 4, 19, 20]))
  (.block 0
   (.loop (some [0, 4, 19, 20])
    Tryz.fn39_l0)))
 (.seq (.seq (.reg Tryz.fn39_r12)
  (.trim [2, 3]))
 .ret))))), true, .none⟩
/-! signalbench/event.Parse -/
def Tryz.fn40_r0 : List AIns :=
   [⟨(some 2), .alloc 40 [(.int .i64 0), (.int .i64 0), (.int .i64 0), (.int .i64 0), (.int .i64 0), (.str []), (.int .i64 0)], .none⟩,
    ⟨(some 3), .mov (.c (.int .i64 0)), .none⟩]
def Tryz.fn40_r1 : List AIns :=
   [⟨(some 15), .mov (.t 0), .none⟩,
    ⟨(some 16), .call 38 [(.t 15), (.c (.str [32])), (.c (.int .i64 7))], .none⟩,
    ⟨(some 4), .mov (.t 16), .none⟩]
def Tryz.fn40_r2 : List AIns :=
   [⟨(some 17), .mov (.t 4), .none⟩,
     ⟨(some 18), .lenl (.t 17), .none⟩,
     ⟨(some 19), .bin .neq (.t 18) (.c (.int .i64 7)), .none⟩]
def Tryz.fn40_r3 : List AIns :=
   [⟨(some 20), .bld [(.int .i64 0), (.int .i64 0), (.int .i64 0), (.int .i64 0), (.int .i64 0), (.str []), (.int .i64 0)] [], .none⟩,
      ⟨.none, .st 7 (.t 2) (.t 20), .none⟩,
      ⟨(some 3), .mov (.c (.int .i64 4)), .none⟩]
def Tryz.fn40_r4 : List DIns :=
   [⟨⟨(some 21), .call 34 [], .none⟩, [], [4, 5, 6], 1⟩,
    ⟨⟨(some 22), .mov (.t 4), .none⟩, [], [2, 3, 4, 5, 6], 0⟩,
    ⟨⟨(some 23), .ia 1 (.t 22) (.c (.int .i64 0)), .none⟩, [1], [3, 4, 5, 6], 0⟩,
    ⟨⟨(some 24), .ld1 (.t 23), .none⟩, [2, 1], [4, 5, 6], 1⟩,
    ⟨⟨(some 25), .call 55 [(.t 21), (.t 24)], .none⟩, [0, 3, 2, 1], [5, 6], 2⟩,
    ⟨⟨(some 26), .bin .add (.t 25) (.c (.int .i64 1)), .none⟩, [4, 0, 3, 2, 1], [6], 0⟩,
    ⟨⟨(some 5), .mov (.t 26), .none⟩, [5, 4, 0, 1, 2, 3], [], 0⟩]
def Tryz.fn40_r5 : List AIns :=
   [⟨(some 28), .mov (.t 4), .none⟩,
    ⟨(some 29), .ia 1 (.t 28) (.c (.int .i64 6)), .none⟩,
    ⟨(some 30), .ld1 (.t 29), .none⟩,
    ⟨(some 31), .call 56 [(.t 30)], .none⟩,
    ⟨(some 27), .mov (.t 31), .none⟩,
    ⟨(some 32), .ext 0 (.t 27), .none⟩,
    ⟨(some 33), .ext 1 (.t 27), .none⟩,
    ⟨(some 6), .mov (.t 32), .none⟩,
    ⟨(some 7), .mov (.t 33), .none⟩]
def Tryz.fn40_r6b : List DIns :=
   ⟨⟨(some 46), .bin .neq (.t 42) (.t 45), (some (40, false))⟩, [8, 11, 6, 7, 5, 2, 4, 1, 0, 3, 10, 9], [13], 0⟩ ::
   ⟨⟨(some 47), .pick (.t 40) (.c (.bool true)) (.t 46), .none⟩, [6, 12, 5, 2, 4, 1, 0, 3, 8, 11, 7, 10, 9], [], 0⟩ ::
   []
def Tryz.fn40_r6a : List DIns :=
   ⟨⟨(some 40), .mov (.t 39), .none⟩, [5, 2, 4, 1, 0, 3], [7, 8, 9, 10, 11, 12, 13], 0⟩ ::
   ⟨⟨(some 41), .mov (.t 6), (some (40, false))⟩, [6, 5, 2, 4, 1, 0, 3], [8, 12, 13], 0⟩ ::
   ⟨⟨(some 42), .call 36 [(.t 41)], (some (40, false))⟩, [7, 6, 5, 2, 4, 1, 0, 3], [12, 13], 1⟩ ::
   ⟨⟨(some 43), .mov (.t 4), (some (40, false))⟩, [6, 5, 2, 4, 1, 0, 3], [10, 11, 12, 13], 0⟩ ::
   ⟨⟨(some 44), .ia 1 (.t 43) (.c (.int .i64 6)), (some (40, false))⟩, [9, 6, 5, 2, 4, 1, 0, 3], [11, 12, 13], 0⟩ ::
   ⟨⟨(some 45), .ld1 (.t 44), (some (40, false))⟩, [10, 6, 9, 5, 2, 4, 1, 0, 3], [12, 13], 1⟩ ::
   Tryz.fn40_r6b
def Tryz.fn40_r6 : List DIns :=
   ⟨⟨(some 34), .mov (.t 5), .none⟩, [], [1, 2, 3, 4, 5, 6, 7, 8, 9, 10, 11, 12, 13], 0⟩ ::
   ⟨⟨(some 35), .bin .eql (.t 34) (.c (.int .i64 0)), .none⟩, [0], [2, 3, 4, 5, 6, 7, 8, 9, 10, 11, 12, 13], 0⟩ ::
   ⟨⟨(some 36), .mov (.t 35), .none⟩, [1, 0], [3, 4, 5, 6, 7, 8, 9, 10, 11, 12, 13], 0⟩ ::
   ⟨⟨(some 37), .mov (.t 7), (some (36, false))⟩, [2, 1, 0], [4, 5, 6, 7, 8, 9, 10, 11, 12, 13], 0⟩ ::
   ⟨⟨(some 38), .bin .neq (.t 37) (.c (.int .i64 0)), (some (36, false))⟩, [3, 2, 1, 0], [5, 6, 7, 8, 9, 10, 11, 12, 13], 0⟩ ::
   ⟨⟨(some 39), .pick (.t 36) (.c (.bool true)) (.t 38), .none⟩, [2, 4, 1, 0, 3], [6, 7, 8, 9, 10, 11, 12, 13], 0⟩ ::
   Tryz.fn40_r6a
def Tryz.fn40_r7 : List AIns :=
   [⟨(some 48), .bld [(.int .i64 0), (.int .i64 0), (.int .i64 0), (.int .i64 0), (.int .i64 0), (.str []), (.int .i64 0)] [], .none⟩,
      ⟨.none, .st 7 (.t 2) (.t 48), .none⟩,
      ⟨(some 3), .mov (.c (.int .i64 4)), .none⟩]
def Tryz.fn40_r8 : List AIns :=
   [⟨(some 8), .mov (.c (.bool true)), .none⟩]
def Tryz.fn40_r9 : List AIns :=
   [⟨(some 9), .alloc 99 [(.int .i64 0), (.int .i64 0), (.int .i64 0), (.int .i64 0), (.int .i64 0)], .none⟩]
def Tryz.fn40_r10 : List AIns :=
   [⟨(some 49), .mov (.c (.int .i64 0)), .none⟩]
def Tryz.fn40_r11 : List AIns :=
   [⟨(some 50), .bin .lss (.t 49) (.c (.int .i64 5)), .none⟩]
def Tryz.fn40_r12 : List AIns :=
   [⟨(some 51), .mov (.t 49), .none⟩,
         ⟨(some 10), .mov (.t 51), .none⟩]
def Tryz.fn40_r13 : List AIns :=
   [⟨(some 53), .mov (.t 4), .none⟩,
          ⟨(some 54), .mov (.t 10), .none⟩,
          ⟨(some 55), .bin .add (.t 54) (.c (.int .i64 1)), .none⟩,
          ⟨(some 56), .ia 1 (.t 53) (.t 55), .none⟩,
          ⟨(some 57), .ld1 (.t 56), .none⟩,
          ⟨(some 58), .call 57 [(.t 57)], .none⟩,
          ⟨(some 52), .mov (.t 58), .none⟩,
          ⟨(some 59), .ext 0 (.t 52), .none⟩,
          ⟨(some 60), .ext 1 (.t 52), .none⟩,
          ⟨(some 61), .ext 2 (.t 52), .none⟩]
def Tryz.fn40_r14 : List AIns :=
   [⟨(some 11), .mov (.t 59), .none⟩,
         ⟨(some 12), .mov (.t 60), .none⟩,
         ⟨(some 13), .mov (.t 61), .none⟩]
def Tryz.fn40_r15 : List AIns :=
   [⟨(some 62), .mov (.t 12), .none⟩,
          ⟨(some 63), .un .not (.t 62), .none⟩]
def Tryz.fn40_r16 : List AIns :=
   [⟨(some 64), .bld [(.int .i64 0), (.int .i64 0), (.int .i64 0), (.int .i64 0), (.int .i64 0), (.str []), (.int .i64 0)] [], .none⟩,
           ⟨.none, .st 7 (.t 2) (.t 64), .none⟩,
           ⟨(some 3), .mov (.c (.int .i64 4)), .none⟩]
def Tryz.fn40_r17 : List AIns :=
   [⟨(some 65), .mov (.t 10), .none⟩,
         ⟨(some 66), .mov (.t 11), .none⟩,
         ⟨(some 67), .iaa 5 1 (.t 9) (.t 65), .none⟩,
         ⟨.none, .st 1 (.t 67) (.t 66), .none⟩]
def Tryz.fn40_r18 : List AIns :=
   [⟨(some 68), .mov (.t 8), .none⟩,
        ⟨(some 69), .mov (.t 68), .none⟩,
        ⟨(some 70), .mov (.t 13), (some (69, true))⟩,
        ⟨(some 71), .pick (.t 69) (.t 70) (.c (.bool false)), .none⟩,
        ⟨(some 8), .mov (.t 71), .none⟩]
def Tryz.fn40_r19 : List AIns :=
   [⟨(some 72), .bin .add (.t 49) (.c (.int .i64 1)), .none⟩,
      ⟨(some 49), .mov (.t 72), .none⟩]
def Tryz.fn40_r20 : List AIns :=
   [⟨(some 73), .mov (.t 5), .none⟩,
     ⟨(some 74), .iaa 5 1 (.t 9) (.c (.int .i64 0)), .none⟩,
     ⟨(some 75), .ld1 (.t 74), .none⟩,
     ⟨(some 76), .iaa 5 1 (.t 9) (.c (.int .i64 1)), .none⟩,
     ⟨(some 77), .ld1 (.t 76), .none⟩,
     ⟨(some 78), .iaa 5 1 (.t 9) (.c (.int .i64 2)), .none⟩,
     ⟨(some 79), .ld1 (.t 78), .none⟩,
     ⟨(some 80), .iaa 5 1 (.t 9) (.c (.int .i64 3)), .none⟩,
     ⟨(some 81), .ld1 (.t 80), .none⟩,
     ⟨(some 82), .iaa 5 1 (.t 9) (.c (.int .i64 4)), .none⟩]
def Tryz.fn40_r21 : List AIns :=
   [⟨(some 83), .ld1 (.t 82), .none⟩,
    ⟨(some 84), .mov (.t 6), .none⟩,
    ⟨(some 85), .bld [(.int .i64 0), (.int .i64 0), (.int .i64 0), (.int .i64 0), (.int .i64 0), (.str []), (.int .i64 0)] [(0, 1, (.t 73)), (1, 1, (.t 75)), (2, 1, (.t 77)), (3, 1, (.t 79)), (4, 1, (.t 81)), (6, 1, (.t 83)), (5, 1, (.t 84))], .none⟩,
    ⟨(some 14), .alloc 40 [(.int .i64 0), (.int .i64 0), (.int .i64 0), (.int .i64 0), (.int .i64 0), (.str []), (.int .i64 0)], .none⟩,
    ⟨.none, .st 7 (.t 14) (.t 85), .none⟩]
def Tryz.fn40_r22 : List AIns :=
   [⟨(some 86), .mov (.t 8), .none⟩,
     ⟨(some 87), .un .not (.t 86), .none⟩,
     ⟨(some 88), .mov (.t 87), .none⟩,
     ⟨(some 89), .ldn 7 (.t 14), (some (88, false))⟩,
     ⟨(some 90), .call 33 [(.t 89)], (some (88, false))⟩,
     ⟨(some 91), .un .not (.t 90), (some (88, false))⟩,
     ⟨(some 92), .pick (.t 88) (.c (.bool true)) (.t 91), .none⟩]
def Tryz.fn40_r23 : List AIns :=
   [⟨(some 93), .bld [(.int .i64 0), (.int .i64 0), (.int .i64 0), (.int .i64 0), (.int .i64 0), (.str []), (.int .i64 0)] [], .none⟩,
      ⟨.none, .st 7 (.t 2) (.t 93), .none⟩,
      ⟨(some 3), .mov (.c (.int .i64 2)), .none⟩]
def Tryz.fn40_r24 : List AIns :=
   [⟨(some 94), .ldn 7 (.t 14), .none⟩,
    ⟨.none, .st 7 (.t 2) (.t 94), .none⟩,
    ⟨(some 3), .mov (.c (.int .i64 0)), .none⟩]
def Tryz.fn40_l0 : ACode :=
 (.seq (.seq (.reg Tryz.fn40_r11)
     (.trim [2, 4, 5, 6, 8, 9, 49, 50]))
    (.seq (.cond (.t 50)
      .skip
      (.exit 0))
    (.seq (.block 1
      (.seq (.seq (.reg Tryz.fn40_r12)
       (.trim [2, 4, 5, 6, 8, 9, 10, 49]))
      (.seq (.seq (.seq (.reg Tryz.fn40_r13)
        (.trim [2, 4, 5, 6, 8, 9, 10, 49, 59, 60, 61]))
       (.seq (.reg Tryz.fn40_r14)
       (.trim [2, 4, 5, 6, 8, 9, 10, 11, 12, 13, 49])))
      (.seq (.seq (.seq (.reg Tryz.fn40_r15)
        (.trim [2, 4, 5, 6, 8, 9, 10, 11, 13, 49, 63]))
       (.cond (.t 63)
        (.seq (.seq (.reg Tryz.fn40_r16)
         (.trim [2, 3]))
        .ret)
        .skip))
      (.seq (.seq (.reg Tryz.fn40_r17)
       (.trim [2, 4, 5, 6, 8, 9, 13, 49]))
      (.seq (.reg Tryz.fn40_r18)
      (.trim [2, 4, 5, 6, 8, 9, 49])))))))
    (.seq (.reg Tryz.fn40_r19)
    (.trim [2, 4, 5, 6, 8, 9, 49])))))
def Tryz.fn40 : AFun :=
 ⟨95, [.celln 2 7, .tmp 3],
 (.seq (.seq (.reg Tryz.fn40_r0)
  (.trim [0, 2]))
 (.seq (.seq (.reg Tryz.fn40_r1)
  (.trim [2, 4]))
 (.seq (.seq (.seq (.reg Tryz.fn40_r2)
   (.trim [2, 4, 19]))
  (.cond (.t 19)
   (.seq (.seq (.reg Tryz.fn40_r3)
    (.trim [2, 3]))
   .ret)
   .skip))
 (.seq (.seq (.regd Tryz.fn40_r4)
  (.trim [2, 4, 5]))
 (.seq (.seq (.reg Tryz.fn40_r5)
  (.trim [2, 4, 5, 6, 7]))
 (.seq (.seq (.seq (.regd Tryz.fn40_r6)
   (.trim [2, 4, 5, 6, 47]))
  (.cond (.t 47)
   (.seq (.seq (.reg Tryz.fn40_r7)
    (.trim [2, 3]))
   .ret)
   .skip))
 (.seq (.seq (.reg Tryz.fn40_r8)
  (.trim [2, 4, 5, 6, 8]))
 (.seq (.seq (.reg Tryz.fn40_r9)
  (.trim [2, 4, 5, 6, 8, 9]))
 (.seq (.seq (.seq (.reg Tryz.fn40_r10)
   (.trim [2, 4, 5, 6, 8, 9, 49]))
  (.block 0
   (.loop (some [2, 4, 5, 6, 8, 9, 49])
    Tryz.fn40_l0)))
 (.seq (.seq (.seq (.reg Tryz.fn40_r20)
   (.trim [2, 6, 8, 73, 75, 77, 79, 81, 82]))
  (.seq (.reg Tryz.fn40_r21)
  (.trim [2, 8, 14])))
 (.seq (.seq (.seq (.reg Tryz.fn40_r22)
   (.trim [2, 14, 92]))
  (.cond (.t 92)
   (.seq (.seq (.reg Tryz.fn40_r23)
    (.trim [2, 3]))
   .ret)
   .skip))
 (.seq (.seq (.reg Tryz.fn40_r24)
  (.trim [2, 3]))
 .ret)))))))))))), true, .none⟩
/-! signalbench/lex.plain -/
def Tryz.fn52_r0 : List AIns :=
   [⟨(some 2), .mov (.c (.bool false)), .none⟩]
def Tryz.fn52_r1 : List AIns :=
   [⟨(some 3), .mov (.t 0), .none⟩,
     ⟨(some 4), .bin .leq (.c (.int .i32 32)) (.t 3), .none⟩,
     ⟨(some 5), .mov (.t 4), .none⟩,
     ⟨(some 6), .mov (.t 0), (some (5, true))⟩,
     ⟨(some 7), .bin .leq (.t 6) (.c (.int .i32 126)), (some (5, true))⟩,
     ⟨(some 8), .pick (.t 5) (.t 7) (.c (.bool false)), .none⟩,
     ⟨(some 9), .mov (.t 8), .none⟩,
     ⟨(some 10), .mov (.t 0), (some (9, true))⟩,
     ⟨(some 11), .bin .neq (.t 10) (.c (.int .i32 34)), (some (9, true))⟩,
     ⟨(some 12), .pick (.t 9) (.t 11) (.c (.bool false)), .none⟩]
def Tryz.fn52_r2 : List AIns :=
   [⟨(some 13), .mov (.t 12), .none⟩,
    ⟨(some 14), .mov (.t 0), (some (13, true))⟩,
    ⟨(some 15), .bin .neq (.t 14) (.c (.int .i32 92)), (some (13, true))⟩,
    ⟨(some 16), .pick (.t 13) (.t 15) (.c (.bool false)), .none⟩,
    ⟨(some 2), .mov (.t 16), .none⟩]
def Tryz.fn52 : AFun :=
 ⟨17, [.tmp 2],
 (.seq (.seq (.reg Tryz.fn52_r0)
  (.trim [0]))
 (.seq (.seq (.seq (.reg Tryz.fn52_r1)
   (.trim [0, 12]))
  (.seq (.reg Tryz.fn52_r2)
  (.trim [2])))
 .ret)), true, .none⟩
/-! slices.Index[[]string,string] -/
def Tryz.fn55_r0 : List AIns :=
   [⟨(some 4), .mov (.c (.int .i64 0)), .none⟩]
def Tryz.fn55_r1 : List AIns :=
   [⟨(some 6), .mov (.t 0), .none⟩,
     ⟨(some 7), .lenl (.t 6), .none⟩,
     ⟨(some 8), .mov (.c (.int .i64 0)), .none⟩]
def Tryz.fn55_r2 : List AIns :=
   [⟨(some 9), .bin .lss (.t 8) (.t 7), .none⟩]
def Tryz.fn55_r3 : List AIns :=
   [⟨(some 10), .mov (.t 8), .none⟩,
         ⟨(some 5), .mov (.t 10), .none⟩]
def Tryz.fn55_r4 : List AIns :=
   [⟨(some 11), .mov (.t 1), .none⟩,
         ⟨(some 12), .mov (.t 0), .none⟩,
         ⟨(some 13), .mov (.t 5), .none⟩,
         ⟨(some 14), .ia 1 (.t 12) (.t 13), .none⟩,
         ⟨(some 15), .ld1 (.t 14), .none⟩,
         ⟨(some 16), .bin .eql (.t 11) (.t 15), .none⟩]
def Tryz.fn55_r5 : List AIns :=
   [⟨(some 17), .mov (.t 5), .none⟩,
          ⟨(some 4), .mov (.t 17), .none⟩]
def Tryz.fn55_r6 : List AIns :=
   [⟨(some 18), .bin .add (.t 8) (.c (.int .i64 1)), .none⟩,
      ⟨(some 8), .mov (.t 18), .none⟩]
def Tryz.fn55_r7 : List AIns :=
   [⟨(some 4), .mov (.c (.int .i64 (-1))), .none⟩]
def Tryz.fn55_l0 : ACode :=
 (.seq (.seq (.reg Tryz.fn55_r2)
     (.trim [0, 1, 7, 8, 9]))
    (.seq (.cond (.t 9)
      .skip
      (.exit 0))
    (.seq (.block 1
      (.seq (.seq (.reg Tryz.fn55_r3)
       (.trim [0, 1, 5, 7, 8]))
      (.seq (.seq (.reg Tryz.fn55_r4)
       (.trim [0, 1, 5, 7, 8, 16]))
      (.cond (.t 16)
       (.seq (.seq (.reg Tryz.fn55_r5)
        (.trim [4]))
       .ret)
       .skip))))
    (.seq (.reg Tryz.fn55_r6)
    (.trim [0, 1, 7, 8])))))
def Tryz.fn55 : AFun :=
 ⟨19, [.tmp 4],
 (.seq (.seq (.reg Tryz.fn55_r0)
  (.trim [0, 1]))
 (.seq (.seq (.seq (.reg Tryz.fn55_r1)
   (.trim [0, 1, 7, 8]))
  (.block 0
   (.loop (some [0, 1, 7, 8])
    Tryz.fn55_l0)))
 (.seq (.seq (.reg Tryz.fn55_r7)
  (.trim [4]))
 .ret))), true, .none⟩
/-! signalbench/lex.Unquote -/
def Tryz.fn56_r0 : List AIns :=
   [⟨(some 2), .mov (.c (.str [])), .none⟩,
    ⟨(some 3), .mov (.c (.int .i64 0)), .none⟩]
def Tryz.fn56_r1 : List AIns :=
   [⟨(some 7), .mov (.t 0), .none⟩,
      ⟨(some 8), .lens (.t 7), .none⟩,
      ⟨(some 9), .bin .lss (.t 8) (.c (.int .i64 2)), .none⟩,
      ⟨(some 10), .mov (.t 9), .none⟩,
      ⟨(some 11), .mov (.t 0), (some (10, false))⟩,
      ⟨(some 12), .ids (.t 11) (.c (.int .i64 0)), (some (10, false))⟩,
      ⟨(some 13), .bin .neq (.t 12) (.c (.int .u8 34)), (some (10, false))⟩,
      ⟨(some 14), .pick (.t 10) (.c (.bool true)) (.t 13), .none⟩,
      ⟨(some 15), .mov (.t 14), .none⟩,
      ⟨(some 16), .mov (.t 0), (some (15, false))⟩]
def Tryz.fn56_r2 : List AIns :=
   [⟨(some 17), .mov (.t 0), (some (15, false))⟩,
     ⟨(some 18), .lens (.t 17), (some (15, false))⟩,
     ⟨(some 19), .bin .sub (.t 18) (.c (.int .i64 1)), (some (15, false))⟩,
     ⟨(some 20), .ids (.t 16) (.t 19), (some (15, false))⟩,
     ⟨(some 21), .bin .neq (.t 20) (.c (.int .u8 34)), (some (15, false))⟩,
     ⟨(some 22), .pick (.t 15) (.c (.bool true)) (.t 21), .none⟩]
def Tryz.fn56_r3 : List AIns :=
   [⟨(some 2), .mov (.c (.str [])), .none⟩,
      ⟨(some 3), .mov (.c (.int .i64 4)), .none⟩]
def Tryz.fn56_r4 : List AIns :=
   [⟨(some 23), .mov (.t 0), .none⟩,
    ⟨(some 24), .mov (.t 0), .none⟩,
    ⟨(some 25), .lens (.t 24), .none⟩,
    ⟨(some 26), .bin .sub (.t 25) (.c (.int .i64 1)), .none⟩,
    ⟨(some 27), .sub (.t 23) (some (.c (.int .i64 1))) (some (.t 26)), .none⟩,
    ⟨(some 0), .mov (.t 27), .none⟩]
def Tryz.fn56_r5 : List AIns :=
   [⟨(some 4), .mov (.c .nils), .none⟩]
def Tryz.fn56_r6 : List AIns :=
   [⟨(some 28), .mov (.t 0), .none⟩,
        ⟨(some 29), .bin .neq (.t 28) (.c (.str [])), .none⟩]
def Tryz.fn56_r7 : List AIns :=
   [⟨(some 30), .mov (.t 0), .none⟩,
         ⟨(some 31), .ids (.t 30) (.c (.int .i64 0)), .none⟩,
         ⟨(some 32), .conv .i32 (.t 31), .none⟩,
         ⟨(some 33), .call 52 [(.t 32)], .none⟩]
def Tryz.fn56_r8a : List DIns :=
   ⟨⟨(some 40), .sub (.t 39) (some (.c (.int .i64 1))) .none, .none⟩, [5], [8], 0⟩ ::
   ⟨⟨(some 4), .mov (.t 38), .none⟩, [4, 0, 1, 2, 3], [8], 0⟩ ::
   ⟨⟨(some 0), .mov (.t 40), .none⟩, [6, 7, 0, 1, 2, 3, 4, 5], [], 0⟩ ::
   []
def Tryz.fn56_r8 : List DIns :=
   ⟨⟨(some 34), .mov (.t 4), .none⟩, [], [4, 7, 8], 0⟩ ::
   ⟨⟨(some 35), .mov (.t 0), .none⟩, [], [2, 3, 4, 7, 8], 0⟩ ::
   ⟨⟨(some 36), .ids (.t 35) (.c (.int .i64 0)), .none⟩, [1], [3, 4, 7, 8], 0⟩ ::
   ⟨⟨(some 37), .bsl 5 1 1 [(.int .u8 0)] [(0, 1, (.t 36))], .none⟩, [2, 1], [4, 7, 8], 2⟩ ::
   ⟨⟨(some 38), .app 5 1 1 (.t 34) (.t 37), .none⟩, [0, 3, 2, 1], [7, 8], 2⟩ ::
   ⟨⟨(some 39), .mov (.t 0), .none⟩, [], [6, 8], 0⟩ ::
   Tryz.fn56_r8a
def Tryz.fn56_r9 : List AIns :=
   [⟨(some 5), .mov (.c (.int .u8 0)), .none⟩,
        ⟨(some 6), .mov (.c (.int .i64 0)), .none⟩]
def Tryz.fn56_r10 : List AIns :=
   [⟨(some 41), .mov (.t 0), .none⟩,
         ⟨(some 42), .ids (.t 41) (.c (.int .i64 0)), .none⟩,
         ⟨(some 43), .bin .eql (.t 42) (.c (.int .u8 92)), .none⟩]
def Tryz.fn56_r11 : List AIns :=
   [⟨(some 45), .mov (.t 0), .none⟩,
         ⟨(some 46), .call 74 [(.t 45)], .none⟩,
         ⟨(some 44), .mov (.t 46), .none⟩,
         ⟨(some 47), .ext 0 (.t 44), .none⟩,
         ⟨(some 48), .ext 1 (.t 44), .none⟩,
         ⟨(some 5), .mov (.t 47), .none⟩,
         ⟨(some 6), .mov (.t 48), .none⟩]
def Tryz.fn56_r12 : List AIns :=
   [⟨(some 49), .mov (.t 6), .none⟩,
         ⟨(some 50), .bin .eql (.t 49) (.c (.int .i64 0)), .none⟩]
def Tryz.fn56_r13 : List AIns :=
   [⟨(some 2), .mov (.c (.str [])), .none⟩,
          ⟨(some 3), .mov (.c (.int .i64 4)), .none⟩]
def Tryz.fn56_r14a : List DIns :=
   ⟨⟨(some 57), .sub (.t 55) (some (.t 56)) .none, .none⟩, [4, 5], [8], 0⟩ ::
   ⟨⟨(some 4), .mov (.t 54), .none⟩, [3, 0, 1, 2], [8], 0⟩ ::
   ⟨⟨(some 0), .mov (.t 57), .none⟩, [6, 7, 0, 1, 2, 3, 4, 5], [], 0⟩ ::
   []
def Tryz.fn56_r14 : List DIns :=
   ⟨⟨(some 51), .mov (.t 4), .none⟩, [], [3, 7, 8], 0⟩ ::
   ⟨⟨(some 52), .mov (.t 5), .none⟩, [], [2, 3, 7, 8], 0⟩ ::
   ⟨⟨(some 53), .bsl 5 1 1 [(.int .u8 0)] [(0, 1, (.t 52))], .none⟩, [1], [3, 7, 8], 2⟩ ::
   ⟨⟨(some 54), .app 5 1 1 (.t 51) (.t 53), .none⟩, [0, 2, 1], [7, 8], 2⟩ ::
   ⟨⟨(some 55), .mov (.t 0), .none⟩, [], [6, 8], 0⟩ ::
   ⟨⟨(some 56), .mov (.t 6), .none⟩, [], [6, 8], 0⟩ ::
   Tryz.fn56_r14a
def Tryz.fn56_r15 : List AIns :=
   [⟨(some 58), .mov (.t 4), .none⟩,
    ⟨(some 59), .b2s (.t 58), .none⟩,
    ⟨(some 2), .mov (.t 59), .none⟩,
    ⟨(some 3), .mov (.c (.int .i64 0)), .none⟩]
def Tryz.fn56_l0 : ACode :=
 (.seq (.seq (.seq (.reg Tryz.fn56_r6)
      (.trim [0, 4, 29]))
     (.cond (.t 29)
      .skip
      (.exit 0)))
    (.block 1
     (.seq (.seq (.seq (.reg Tryz.fn56_r7)
       (.trim [0, 4, 33]))
      (.cond (.t 33)
       (.seq (.seq (.regd Tryz.fn56_r8)
        (.trim [0, 4]))
       (.exit 1))
       .skip))
     (.seq (.seq (.reg Tryz.fn56_r9)
      (.trim [0, 4, 5, 6]))
     (.seq (.seq (.seq (.reg Tryz.fn56_r10)
       (.trim [0, 4, 5, 6, 43]))
      (.cond (.t 43)
       (.seq (.reg Tryz.fn56_r11)
       (.trim [0, 4, 5, 6]))
       .skip))
     (.seq (.seq (.seq (.reg Tryz.fn56_r12)
       (.trim [0, 4, 5, 6, 50]))
      (.cond (.t 50)
       (.seq (.seq (.reg Tryz.fn56_r13)
        (.trim [2, 3]))
       .ret)
       .skip))
     (.seq (.regd Tryz.fn56_r14)
     (.trim [0, 4]))))))))
def Tryz.fn56 : AFun :=
 ⟨60, [.tmp 2, .tmp 3],
 (.seq (.seq (.reg Tryz.fn56_r0)
  (.trim [0]))
 (.seq (.seq (.seq (.seq (.reg Tryz.fn56_r1)
    (.trim [0, 15, 16]))
   (.seq (.reg Tryz.fn56_r2)
   (.trim [0, 22])))
  (.cond (.t 22)
   (.seq (.seq (.reg Tryz.fn56_r3)
    (.trim [2, 3]))
   .ret)
   .skip))
 (.seq (.seq (.reg Tryz.fn56_r4)
  (.trim [0]))
 (.seq (.seq (.reg Tryz.fn56_r5)
  (.trim [0, 4]))
 (.seq (.block 0
   (.loop (some [0, 4])
    Tryz.fn56_l0))
 (.seq (.seq (.reg Tryz.fn56_r15)
  (.trim [2, 3]))
 .ret)))))), true, .none⟩
/-! signalbench/event.number -/
def Tryz.fn57_r0 : List AIns :=
   [⟨(some 2), .mov (.c (.int .i64 0)), .none⟩,
    ⟨(some 3), .mov (.c (.bool false)), .none⟩,
    ⟨(some 4), .mov (.c (.bool false)), .none⟩]
def Tryz.fn57_r1 : List AIns :=
   [⟨(some 8), .mov (.t 0), .none⟩,
    ⟨(some 9), .call 75 [(.t 8), (.c (.str [45]))], .none⟩,
    ⟨(some 5), .mov (.t 9), .none⟩]
def Tryz.fn57_r2 : List AIns :=
   [⟨(some 10), .mov (.t 5), .none⟩,
      ⟨(some 11), .bin .eql (.t 10) (.c (.str [])), .none⟩,
      ⟨(some 12), .mov (.t 11), .none⟩,
      ⟨(some 13), .mov (.t 5), (some (12, false))⟩,
      ⟨(some 14), .ids (.t 13) (.c (.int .i64 0)), (some (12, false))⟩,
      ⟨(some 15), .bin .eql (.t 14) (.c (.int .u8 48)), (some (12, false))⟩,
      ⟨(some 16), .mov (.t 15), (some (12, false))⟩,
      ⟨(some 17), .mov (.t 0), (some (16, true))⟩,
      ⟨(some 18), .bin .neq (.t 17) (.c (.str [48])), (some (16, true))⟩,
      ⟨(some 19), .pick (.t 16) (.t 18) (.c (.bool false)), (some (12, false))⟩]
def Tryz.fn57_r3 : List AIns :=
   [⟨(some 20), .pick (.t 12) (.c (.bool true)) (.t 19), .none⟩]
def Tryz.fn57_r4 : List AIns :=
   [⟨(some 2), .mov (.c (.int .i64 0)), .none⟩,
      ⟨(some 3), .mov (.c (.bool false)), .none⟩,
      ⟨(some 4), .mov (.c (.bool false)), .none⟩]
def Tryz.fn57_r5 : List AIns :=
   [⟨(some 21), .mov (.t 5), .none⟩,
     ⟨(some 22), .lens (.t 21), .none⟩,
     ⟨(some 23), .mov (.c (.int .i64 0)), .none⟩]
def Tryz.fn57_r6 : List AIns :=
   [⟨(some 24), .bin .lss (.t 23) (.t 22), .none⟩]
def Tryz.fn57_r7 : List AIns :=
   [⟨(some 25), .mov (.t 23), .none⟩,
         ⟨(some 6), .mov (.t 25), .none⟩]
def Tryz.fn57_r8 : List AIns :=
   [⟨(some 26), .mov (.t 5), .none⟩,
         ⟨(some 27), .mov (.t 6), .none⟩,
         ⟨(some 28), .ids (.t 26) (.t 27), .none⟩,
         ⟨(some 29), .bin .lss (.t 28) (.c (.int .u8 48)), .none⟩,
         ⟨(some 30), .mov (.t 29), .none⟩,
         ⟨(some 31), .mov (.t 5), (some (30, false))⟩,
         ⟨(some 32), .mov (.t 6), (some (30, false))⟩,
         ⟨(some 33), .ids (.t 31) (.t 32), (some (30, false))⟩,
         ⟨(some 34), .bin .gtr (.t 33) (.c (.int .u8 57)), (some (30, false))⟩,
         ⟨(some 35), .pick (.t 30) (.c (.bool true)) (.t 34), .none⟩]
def Tryz.fn57_r9 : List AIns :=
   [⟨(some 2), .mov (.c (.int .i64 0)), .none⟩,
          ⟨(some 3), .mov (.c (.bool false)), .none⟩,
          ⟨(some 4), .mov (.c (.bool false)), .none⟩]
def Tryz.fn57_r10 : List AIns :=
   [⟨(some 36), .bin .add (.t 23) (.c (.int .i64 1)), .none⟩,
      ⟨(some 23), .mov (.t 36), .none⟩]
def Tryz.fn57_r11 : List AIns :=
   [⟨(some 38), .mov (.t 0), .none⟩,
    ⟨(some 39), .call 76 [(.t 38)], .none⟩,
    ⟨(some 37), .mov (.t 39), .none⟩,
    ⟨(some 40), .ext 0 (.t 37), .none⟩,
    ⟨(some 41), .ext 1 (.t 37), .none⟩,
    ⟨(some 2), .mov (.t 40), .none⟩,
    ⟨(some 7), .mov (.t 41), .none⟩]
def Tryz.fn57_r12 : List DIns :=
   [⟨⟨(some 42), .mov (.t 2), .none⟩, [], [3, 4, 5], 0⟩,
    ⟨⟨(some 43), .mov (.t 7), .none⟩, [], [2, 5], 0⟩,
    ⟨⟨(some 44), .eqv false true .iface (.t 43) (.c .nili), .none⟩, [1], [5], 0⟩,
    ⟨⟨(some 2), .mov (.t 42), .none⟩, [0], [4, 5], 0⟩,
    ⟨⟨(some 3), .mov (.c (.bool true)), .none⟩, [3, 0], [5], 0⟩,
    ⟨⟨(some 4), .mov (.t 44), .none⟩, [2, 4, 0, 1, 3], [], 0⟩]
def Tryz.fn57_l0 : ACode :=
 (.seq (.seq (.reg Tryz.fn57_r6)
     (.trim [0, 5, 22, 23, 24]))
    (.seq (.cond (.t 24)
      .skip
      (.exit 0))
    (.seq (.block 1
      (.seq (.seq (.reg Tryz.fn57_r7)
       (.trim [0, 5, 6, 22, 23]))
      (.seq (.seq (.reg Tryz.fn57_r8)
       (.trim [0, 5, 22, 23, 35]))
      (.cond (.t 35)
       (.seq (.seq (.reg Tryz.fn57_r9)
        (.trim [2, 3, 4]))
       .ret)
       .skip))))
    (.seq (.reg Tryz.fn57_r10)
    (.trim [0, 5, 22, 23])))))
def Tryz.fn57 : AFun :=
 ⟨45, [.tmp 2, .tmp 3, .tmp 4],
 (.seq (.seq (.reg Tryz.fn57_r0)
  (.trim [0]))
 (.seq (.seq (.reg Tryz.fn57_r1)
  (.trim [0, 5]))
 (.seq (.seq (.seq (.seq (.reg Tryz.fn57_r2)
    (.trim [0, 5, 12, 19]))
   (.seq (.reg Tryz.fn57_r3)
   (.trim [0, 5, 20])))
  (.cond (.t 20)
   (.seq (.seq (.reg Tryz.fn57_r4)
    (.trim [2, 3, 4]))
   .ret)
   .skip))
 (.seq (.seq (.seq (.reg Tryz.fn57_r5)
   (.trim [0, 5, 22, 23]))
  (.block 0
   (.loop (some [0, 5, 22, 23])
    Tryz.fn57_l0)))
 (.seq (.seq (.reg Tryz.fn57_r11)
  (.trim [2, 7]))
 (.seq (.seq (.regd Tryz.fn57_r12)
  (.trim [2, 3, 4]))
 .ret)))))), true, .none⟩
/-! internal/stringslite.HasPrefix -/
def Tryz.fn60_r0 : List AIns :=
   [⟨(some 4), .mov (.c (.bool false)), .none⟩]
def Tryz.fn60_r1 : List AIns :=
   [⟨(some 5), .mov (.t 0), .none⟩,
     ⟨(some 6), .lens (.t 5), .none⟩,
     ⟨(some 7), .mov (.t 1), .none⟩,
     ⟨(some 8), .lens (.t 7), .none⟩,
     ⟨(some 9), .bin .geq (.t 6) (.t 8), .none⟩,
     ⟨(some 10), .mov (.t 9), .none⟩,
     ⟨(some 11), .mov (.t 0), (some (10, true))⟩,
     ⟨(some 12), .mov (.t 1), (some (10, true))⟩,
     ⟨(some 13), .lens (.t 12), (some (10, true))⟩,
     ⟨(some 14), .sub (.t 11) .none (some (.t 13)), (some (10, true))⟩]
def Tryz.fn60_r2 : List AIns :=
   [⟨(some 15), .mov (.t 1), (some (10, true))⟩,
    ⟨(some 16), .bin .eql (.t 14) (.t 15), (some (10, true))⟩,
    ⟨(some 17), .pick (.t 10) (.t 16) (.c (.bool false)), .none⟩,
    ⟨(some 4), .mov (.t 17), .none⟩]
def Tryz.fn60 : AFun :=
 ⟨18, [.tmp 4],
 (.seq (.seq (.reg Tryz.fn60_r0)
  (.trim [0, 1]))
 (.seq (.seq (.seq (.reg Tryz.fn60_r1)
   (.trim [1, 10, 14]))
  (.seq (.reg Tryz.fn60_r2)
  (.trim [4])))
 .ret)), true, .none⟩
/-! signalbench/lex.escape -/
def Tryz.fn74_r0 : List AIns :=
   [⟨(some 2), .mov (.c (.int .u8 0)), .none⟩,
    ⟨(some 3), .mov (.c (.int .i64 0)), .none⟩]
def Tryz.fn74_r1 : List AIns :=
   [⟨(some 4), .mov (.t 0), .none⟩,
     ⟨(some 5), .lens (.t 4), .none⟩,
     ⟨(some 6), .bin .lss (.t 5) (.c (.int .i64 2)), .none⟩]
def Tryz.fn74_r2 : List AIns :=
   [⟨(some 2), .mov (.c (.int .u8 0)), .none⟩,
      ⟨(some 3), .mov (.c (.int .i64 0)), .none⟩]
def Tryz.fn74_r3 : List AIns :=
   [⟨(some 7), .mov (.t 0), .none⟩,
     ⟨(some 8), .ids (.t 7) (.c (.int .i64 1)), .none⟩]
def Tryz.fn74_r4 : List AIns :=
   [⟨(some 10), .bin .eql (.t 8) (.c (.int .u8 34)), .none⟩,
       ⟨(some 9), .mov (.t 10), .none⟩]
def Tryz.fn74_r5 : List AIns :=
   [⟨(some 11), .bin .eql (.t 8) (.c (.int .u8 92)), .none⟩,
       ⟨(some 9), .mov (.t 11), .none⟩]
def Tryz.fn74_r6 : List AIns :=
   [⟨(some 12), .mov (.t 0), .none⟩,
       ⟨(some 13), .ids (.t 12) (.c (.int .i64 1)), .none⟩,
       ⟨(some 2), .mov (.t 13), .none⟩,
       ⟨(some 3), .mov (.c (.int .i64 2)), .none⟩]
def Tryz.fn74_r7 : List AIns :=
   [⟨(some 15), .bin .eql (.t 8) (.c (.int .u8 110)), .none⟩,
       ⟨(some 14), .mov (.t 15), .none⟩]
def Tryz.fn74_r8 : List AIns :=
   [⟨(some 2), .mov (.c (.int .u8 10)), .none⟩,
        ⟨(some 3), .mov (.c (.int .i64 2)), .none⟩]
def Tryz.fn74_r9 : List AIns :=
   [⟨(some 17), .bin .eql (.t 8) (.c (.int .u8 120)), .none⟩,
        ⟨(some 16), .mov (.t 17), .none⟩]
def Tryz.fn74_r10 : List AIns :=
   [⟨(some 18), .mov (.t 0), .none⟩,
           ⟨(some 19), .lens (.t 18), .none⟩,
           ⟨(some 20), .bin .lss (.t 19) (.c (.int .i64 4)), .none⟩,
           ⟨(some 21), .mov (.t 20), .none⟩,
           ⟨(some 22), .mov (.t 0), (some (21, false))⟩,
           ⟨(some 23), .ids (.t 22) (.c (.int .i64 2)), (some (21, false))⟩,
           ⟨(some 24), .call 88 [(.t 23)], (some (21, false))⟩,
           ⟨(some 25), .bin .lss (.t 24) (.c (.int .i64 0)), (some (21, false))⟩,
           ⟨(some 26), .pick (.t 21) (.c (.bool true)) (.t 25), .none⟩,
           ⟨(some 27), .mov (.t 26), .none⟩]
def Tryz.fn74_r11 : List AIns :=
   [⟨(some 28), .mov (.t 0), (some (27, false))⟩,
          ⟨(some 29), .ids (.t 28) (.c (.int .i64 3)), (some (27, false))⟩,
          ⟨(some 30), .call 88 [(.t 29)], (some (27, false))⟩,
          ⟨(some 31), .bin .lss (.t 30) (.c (.int .i64 0)), (some (27, false))⟩,
          ⟨(some 32), .pick (.t 27) (.c (.bool true)) (.t 31), .none⟩]
def Tryz.fn74_r12 : List AIns :=
   [⟨(some 2), .mov (.c (.int .u8 0)), .none⟩,
           ⟨(some 3), .mov (.c (.int .i64 0)), .none⟩]
def Tryz.fn74_r13a : List DIns :=
   ⟨⟨(some 39), .call 88 [(.t 38)], .none⟩, [5, 2, 4, 1, 0], [7, 8, 9, 10], 2⟩ ::
   ⟨⟨(some 40), .bin .add (.t 36) (.t 39), .none⟩, [3, 6, 2, 1, 0, 5, 4], [8, 9, 10], 0⟩ ::
   ⟨⟨(some 41), .conv .u8 (.t 40), .none⟩, [7, 3, 6, 2, 1, 0, 5, 4], [9, 10], 0⟩ ::
   ⟨⟨(some 2), .mov (.t 41), .none⟩, [8, 6, 0, 1, 2, 3, 4, 5, 7], [10], 0⟩ ::
   ⟨⟨(some 3), .mov (.c (.int .i64 4)), .none⟩, [9, 0, 1, 2, 3, 4, 5, 6, 7, 8], [], 0⟩ ::
   []
def Tryz.fn74_r13 : List DIns :=
   ⟨⟨(some 33), .mov (.t 0), .none⟩, [], [1, 2, 3, 6, 7, 8, 9, 10], 0⟩ ::
   ⟨⟨(some 34), .ids (.t 33) (.c (.int .i64 2)), .none⟩, [0], [2, 3, 6, 7, 8, 9, 10], 0⟩ ::
   ⟨⟨(some 35), .call 88 [(.t 34)], .none⟩, [1, 0], [3, 6, 7, 8, 9, 10], 2⟩ ::
   ⟨⟨(some 36), .bin .mul (.c (.int .i64 16)) (.t 35), .none⟩, [2, 1, 0], [7, 8, 9, 10], 0⟩ ::
   ⟨⟨(some 37), .mov (.t 0), .none⟩, [], [5, 6, 7, 8, 9, 10], 0⟩ ::
   ⟨⟨(some 38), .ids (.t 37) (.c (.int .i64 3)), .none⟩, [4], [6, 7, 8, 9, 10], 0⟩ ::
   Tryz.fn74_r13a
def Tryz.fn74_r14 : List AIns :=
   [⟨(some 2), .mov (.c (.int .u8 0)), .none⟩,
    ⟨(some 3), .mov (.c (.int .i64 0)), .none⟩]
def Tryz.fn74 : AFun :=
 ⟨42, [.tmp 2, .tmp 3],
 (.seq (.seq (.reg Tryz.fn74_r0)
  (.trim [0]))
 (.seq (.seq (.seq (.reg Tryz.fn74_r1)
   (.trim [0, 6]))
  (.cond (.t 6)
   (.seq (.seq (.reg Tryz.fn74_r2)
    (.trim [2, 3]))
   .ret)
   .skip))
 (.seq (.seq (.seq (.reg Tryz.fn74_r3)
   (.trim [0, 8]))
  (.block 0
   (.seq (.seq (.seq (.reg Tryz.fn74_r4)
     (.trim [0, 8, 9]))
    (.cond (.t 9)
     .skip
     (.seq (.reg Tryz.fn74_r5)
     (.trim [0, 8, 9]))))
   (.cond (.t 9)
    (.seq (.seq (.reg Tryz.fn74_r6)
     (.trim [2, 3]))
    .ret)
    (.seq (.seq (.reg Tryz.fn74_r7)
     (.trim [0, 8, 14]))
    (.cond (.t 14)
     (.seq (.seq (.reg Tryz.fn74_r8)
      (.trim [2, 3]))
     .ret)
     (.seq (.seq (.reg Tryz.fn74_r9)
      (.trim [0, 16]))
     (.cond (.t 16)
      (.seq (.seq (.seq (.seq (.reg Tryz.fn74_r10)
         (.trim [0, 27]))
        (.seq (.reg Tryz.fn74_r11)
        (.trim [0, 32])))
       (.cond (.t 32)
        (.seq (.seq (.reg Tryz.fn74_r12)
         (.trim [2, 3]))
        .ret)
        .skip))
      (.seq (.seq (.regd Tryz.fn74_r13)
       (.trim [2, 3]))
      .ret))
      .skip))))))))
 (.seq (.seq (.reg Tryz.fn74_r14)
  (.trim [2, 3]))
 .ret)))), true, .none⟩
/-! strings.TrimPrefix -/
def Tryz.fn75_r0 : List AIns :=
   [⟨(some 4), .mov (.c (.str [])), .none⟩]
def Tryz.fn75_r1 : List AIns :=
   [⟨(some 5), .mov (.t 0), .none⟩,
    ⟨(some 6), .mov (.t 1), .none⟩,
    ⟨(some 7), .call 89 [(.t 5), (.t 6)], .none⟩,
    ⟨(some 4), .mov (.t 7), .none⟩]
def Tryz.fn75 : AFun :=
 ⟨8, [.tmp 4],
 (.seq (.seq (.reg Tryz.fn75_r0)
  (.trim [0, 1]))
 (.seq (.seq (.reg Tryz.fn75_r1)
  (.trim [4]))
 .ret)), true, .none⟩
/-! signalbench/lex.hex -/
def Tryz.fn88_r0 : List AIns :=
   [⟨(some 2), .mov (.c (.int .i64 0)), .none⟩]
def Tryz.fn88_r1 : List AIns :=
   [⟨(some 4), .mov (.t 0), .none⟩,
      ⟨(some 5), .bin .leq (.c (.int .u8 48)) (.t 4), .none⟩,
      ⟨(some 6), .mov (.t 5), .none⟩,
      ⟨(some 7), .mov (.t 0), (some (6, true))⟩,
      ⟨(some 8), .bin .leq (.t 7) (.c (.int .u8 57)), (some (6, true))⟩,
      ⟨(some 9), .pick (.t 6) (.t 8) (.c (.bool false)), .none⟩,
      ⟨(some 3), .mov (.t 9), .none⟩]
def Tryz.fn88_r2 : List AIns :=
   [⟨(some 10), .mov (.t 0), .none⟩,
       ⟨(some 11), .bin .sub (.t 10) (.c (.int .u8 48)), .none⟩,
       ⟨(some 12), .conv .i64 (.t 11), .none⟩,
       ⟨(some 2), .mov (.t 12), .none⟩]
def Tryz.fn88_r3 : List AIns :=
   [⟨(some 14), .mov (.t 0), .none⟩,
       ⟨(some 15), .bin .leq (.c (.int .u8 97)) (.t 14), .none⟩,
       ⟨(some 16), .mov (.t 15), .none⟩,
       ⟨(some 17), .mov (.t 0), (some (16, true))⟩,
       ⟨(some 18), .bin .leq (.t 17) (.c (.int .u8 102)), (some (16, true))⟩,
       ⟨(some 19), .pick (.t 16) (.t 18) (.c (.bool false)), .none⟩,
       ⟨(some 13), .mov (.t 19), .none⟩]
def Tryz.fn88_r4 : List AIns :=
   [⟨(some 20), .mov (.t 0), .none⟩,
        ⟨(some 21), .bin .sub (.t 20) (.c (.int .u8 97)), .none⟩,
        ⟨(some 22), .conv .i64 (.t 21), .none⟩,
        ⟨(some 23), .bin .add (.t 22) (.c (.int .i64 10)), .none⟩,
        ⟨(some 2), .mov (.t 23), .none⟩]
def Tryz.fn88_r5 : List AIns :=
   [⟨(some 2), .mov (.c (.int .i64 (-1))), .none⟩]
def Tryz.fn88 : AFun :=
 ⟨24, [.tmp 2],
 (.seq (.seq (.reg Tryz.fn88_r0)
  (.trim [0]))
 (.seq (.block 0
   (.seq (.seq (.reg Tryz.fn88_r1)
    (.trim [0, 3]))
   (.cond (.t 3)
    (.seq (.seq (.reg Tryz.fn88_r2)
     (.trim [2]))
    .ret)
    (.seq (.seq (.reg Tryz.fn88_r3)
     (.trim [0, 13]))
    (.cond (.t 13)
     (.seq (.seq (.reg Tryz.fn88_r4)
      (.trim [2]))
     .ret)
     .skip)))))
 (.seq (.seq (.reg Tryz.fn88_r5)
  (.trim [2]))
 .ret))), true, .none⟩
/-! internal/stringslite.TrimPrefix -/
def Tryz.fn89_r0 : List AIns :=
   [⟨(some 4), .mov (.c (.str [])), .none⟩]
def Tryz.fn89_r1 : List AIns :=
   [⟨(some 5), .mov (.t 0), .none⟩,
     ⟨(some 6), .mov (.t 1), .none⟩,
     ⟨(some 7), .call 60 [(.t 5), (.t 6)], .none⟩]
def Tryz.fn89_r2 : List AIns :=
   [⟨(some 8), .mov (.t 0), .none⟩,
      ⟨(some 9), .mov (.t 1), .none⟩,
      ⟨(some 10), .lens (.t 9), .none⟩,
      ⟨(some 11), .sub (.t 8) (some (.t 10)) .none, .none⟩,
      ⟨(some 4), .mov (.t 11), .none⟩]
def Tryz.fn89_r3 : List AIns :=
   [⟨(some 12), .mov (.t 0), .none⟩,
    ⟨(some 4), .mov (.t 12), .none⟩]
def Tryz.fn89 : AFun :=
 ⟨13, [.tmp 4],
 (.seq (.seq (.reg Tryz.fn89_r0)
  (.trim [0, 1]))
 (.seq (.seq (.seq (.reg Tryz.fn89_r1)
   (.trim [0, 1, 7]))
  (.cond (.t 7)
   (.seq (.seq (.reg Tryz.fn89_r2)
    (.trim [4]))
   .ret)
   .skip))
 (.seq (.seq (.reg Tryz.fn89_r3)
  (.trim [4]))
 .ret))), true, .none⟩
theorem Tryz.fn3_ok : cfunL Tryz.prog Tryz.f3 [.cut [(1, [0, 1])], .cut [(2, [0, 1, 14])], .cut [(1, [4])], .cut [(8, [0, 1, 22])], .cut [(1, [4])], .cut [(7, [0, 1, 5, 6])], .cut [(2, [0, 1, 5, 29])], .cut [(7, [0, 1, 7, 8])], .cut [(8, [1, 42])], .cut [(1, [4])], .cut [(7, [1, 6, 9])], .cut [(2, [1, 6, 9, 49])], .cut [(9, [1, 6, 9, 10, 11, 12])], .cut [(10, [6, 9, 62, 65]), (2, [6, 9, 67])], .cut [(1, [4])], .cut [(7, [4])]] false = some Tryz.fn3 := by kernel_rfl
theorem Tryz.fn4_ok : cfunL Tryz.prog Tryz.f4 [.cut [(1, [])], .cut [(9, [1, 2])], .cut [(9, [1, 2, 3, 4])], .cut [(10, [4, 28]), (5, [0])]] true = some Tryz.fn4 := by kernel_rfl
theorem Tryz.fn5_ok : cfunL Tryz.prog Tryz.f5 [.cut [(1, [0])], .cut [(3, [0, 7])], .cut [(1, [2])], .cut [(1, [0, 3])], .keep [0, 3], .cut [(4, [0, 3, 11])], .cut [(6, [0, 3, 19])], .cut [(1, [2])], .cut [(1, [0, 3, 4])], .keep [0, 3, 4], .cut [(7, [0, 3, 4, 26])], .cut [(9, [0, 3, 4, 37])], .cut [(1, [2])], .cut [(3, [0, 3, 4])], .cut [(3, [0, 3])], .cut [(1, [2])]] false = some Tryz.fn5 := by kernel_rfl
theorem Tryz.fn6_ok : cfunL Tryz.prog Tryz.f6 [.cut [(1, [0])], .cut [(3, [0, 7])], .cut [(1, [2])], .cut [(1, [0, 3])], .cut [(1, [0, 3, 4])], .keep [0, 3, 4], .cut [(4, [0, 3, 4, 11])], .cut [(8, [0, 3, 4, 21])], .cut [(1, [2])], .cut [(10, [0, 3, 4])], .cut [(3, [0, 3, 4])], .cut [(3, [2])]] true = some Tryz.fn6 := by kernel_rfl
theorem Tryz.fn7_ok : cfunL Tryz.prog Tryz.f7 [.cut [(2, [0])], .cut [(7, [0, 4, 5])], .cut [(2, [0, 4, 17])], .cut [(2, [2, 3])], .cut [(4, [0, 4, 21])], .cut [(2, [2, 3])], .cut [(1, [0, 4, 6])], .cut [(3, [4, 6, 22, 23, 24])], .keep [4, 6, 22, 23, 24], .cut [(1, [4, 6, 22, 23, 24, 25])], .cut [(3, [4, 6, 8, 22, 23, 24])], .cut [(3, [4, 6, 8, 22, 23, 24, 28, 29, 30])], .keep [4, 6, 8, 22, 23, 24, 28, 29, 30], .cut [(1, [4, 6, 8, 22, 23, 24, 28, 29, 30, 31])], .cut [(5, [4, 6, 8, 9, 10, 22, 23, 24, 28, 29, 30])], .cut [(10, [4, 6, 8, 22, 23, 24, 28, 29, 30, 35, 39, 44]), (1, [4, 6, 8, 22, 23, 24, 28, 29, 30])], .cut [(2, [4, 6, 8, 22, 23, 24, 28, 29, 30])], .cut [(1, [4, 6, 22, 23, 24])], .cut [(2, [4, 6, 22, 23, 24])], .cut [(3, [2, 3])]] false = some Tryz.fn7 := by kernel_rfl
theorem Tryz.fn8_ok : cfunL Tryz.prog Tryz.f8 [.cut [(2, [0])], .cut [(3, [0, 11])], .cut [(2, [2, 3])], .cut [(1, [0, 4])], .cut [(2, [0, 4, 5])], .keep [0, 4, 5], .cut [(2, [0, 4, 5, 14])], .cut [(3, [0, 4, 5, 6])], .cut [(2, [0, 4, 5, 6, 18])], .cut [(2, [2, 3])], .cut [(8, [0, 4, 5, 6])], .cut [(5, [0, 4, 5])], .cut [(7, [0, 4, 7, 8])], .cut [(7, [4, 41])], .cut [(2, [2, 3])], .cut [(3, [2, 3])]] false = some Tryz.fn8 := by kernel_rfl
theorem Tryz.fn9_ok : cfunL Tryz.prog Tryz.f9 [.cut [(1, [0, 1])], .cut [(5, [0, 1, 11])], .cut [(1, [4])], .cut [(1, [0, 1, 5])], .keep [0, 1, 5], .cut [(4, [0, 1, 5, 15])], .keep [0, 1, 5, 28], .cut [(1, [4])], .cut [(1, [0, 1, 5, 6])], .keep [0, 1, 5, 6], .cut [(7, [0, 1, 5, 6, 35])], .keep [0, 1, 5, 6, 52], .cut [(1, [4])], .cut [(3, [0, 1, 5, 6])], .cut [(3, [0, 1, 5])], .cut [(1, [4])]] false = some Tryz.fn9 := by kernel_rfl
theorem Tryz.fn10_ok : cfunL Tryz.prog Tryz.f10 [.cut [(2, [0])], .cut [(3, [0, 11, 12, 13])], .keep [0, 11, 12, 13], .cut [(1, [0, 11, 12, 13, 14])], .cut [(4, [0, 5, 11, 12, 13])], .cut [(3, [0, 11, 12, 13, 19])], .cut [(2, [2, 3])], .cut [(2, [0, 11, 12, 13])], .cut [(1, [0, 6])], .cut [(3, [6, 21, 22, 23])], .keep [6, 21, 22, 23], .cut [(1, [6, 21, 22, 23, 24])], .cut [(4, [6, 8, 21, 22, 23])], .cut [(8, [6, 8, 9, 21, 22, 23])], .keep [6, 21, 22, 23], .cut [(2, [6, 21, 22, 23, 47])], .cut [(2, [2, 3])], .cut [(2, [6, 21, 22, 23])], .cut [(3, [2, 3])]] true = some Tryz.fn10 := by kernel_rfl
theorem Tryz.fn11_ok : cfunL Tryz.prog Tryz.f11 [.cut [(3, [0])], .cut [(3, [0, 12])], .cut [(3, [2, 3, 4])], .cut [(1, [0, 5])], .cut [(1, [0, 5, 6])], .keep [0, 5, 6], .cut [(2, [0, 5, 6, 14])], .cut [(3, [0, 5, 6, 7])], .cut [(2, [0, 5, 6, 7, 20])], .cut [(4, [2, 3, 4])], .cut [(10, [0, 5, 6, 7, 8, 9])], .cut [(2, [0, 5, 6, 7, 8, 9, 30])], .cut [(5, [2, 3, 4])], .keep [0, 5, 6], .cut [(3, [0, 5, 6])], .cut [(4, [2, 3, 4])]] true = some Tryz.fn11 := by kernel_rfl
theorem Tryz.fn12_ok : cfunL Tryz.prog Tryz.f12 [.cut [(1, [0, 1])], .cut [(5, [0, 1, 10])], .cut [(1, [4])], .cut [(1, [0, 1, 5])], .keep [0, 1, 5], .cut [(4, [0, 1, 5, 14])], .keep [0, 1, 5, 25], .cut [(1, [4])], .cut [(3, [0, 1, 5])], .cut [(1, [4])]] true = some Tryz.fn12 := by kernel_rfl
theorem Tryz.fn13_ok : cfunL Tryz.prog Tryz.f13 [.cut [(2, [0])], .cut [(3, [0, 11])], .cut [(2, [2, 3])], .cut [(6, [0, 4])], .cut [(3, [4, 17, 18, 19])], .keep [4, 17, 18, 19], .cut [(1, [4, 17, 18, 19, 20])], .cut [(3, [4, 6, 17, 18, 19])], .cut [(10, [4, 6, 17, 18, 19, 32])], .cut [(2, [2, 3])], .cut [(3, [4, 17, 18, 19, 33, 34, 35])], .keep [4, 17, 18, 19, 33, 34, 35], .cut [(1, [4, 17, 18, 19, 33, 34, 35, 36])], .cut [(5, [4, 7, 8, 17, 18, 19, 33, 34, 35])], .cut [(3, [4, 7, 8, 17, 18, 19, 33, 34, 35, 42])], .cut [(2, [2, 3])], .cut [(10, [4, 17, 18, 19, 33, 34, 35, 51, 52]), (1, [4, 17, 18, 19, 33, 34, 35])], .cut [(2, [4, 17, 18, 19, 33, 34, 35])], .cut [(2, [4, 17, 18, 19])], .cut [(3, [2, 3])]] false = some Tryz.fn13 := by kernel_rfl
theorem Tryz.fn14_ok : cfunL Tryz.prog Tryz.f14 [.cut [(1, [0, 1])], .cut [(1, [0, 1, 5])], .cut [(3, [1, 5, 10, 11, 12])], .keep [1, 5, 10, 11, 12], .cut [(1, [1, 5, 10, 11, 12, 13])], .cut [(3, [1, 5, 7, 10, 11, 12])], .cut [(3, [1, 5, 7, 10, 11, 12, 16, 17, 18])], .keep [1, 5, 7, 10, 11, 12, 16, 17, 18], .cut [(1, [1, 5, 7, 10, 11, 12, 16, 17, 18, 19])], .cut [(5, [1, 5, 7, 8, 9, 10, 11, 12, 16, 17, 18])], .cut [(5, [1, 5, 7, 8, 9, 10, 11, 12, 16, 17, 18, 27])], .cut [(6, [1, 5, 7, 10, 11, 12, 16, 17, 18])], .cut [(8, [1, 5, 7, 10, 11, 12, 16, 17, 18])], .cut [(2, [1, 5, 7, 10, 11, 12, 16, 17, 18, 41])], .cut [(2, [4])], .cut [(2, [1, 5, 7, 10, 11, 12, 16, 17, 18])], .cut [(2, [1, 5, 10, 11, 12])], .cut [(2, [4])]] false = some Tryz.fn14 := by kernel_rfl
theorem Tryz.fn15_ok : cfunD Tryz.prog Tryz.f15 [] [] = some Tryz.fn15 := by kernel_rfl
theorem Tryz.fn16_ok : cfunL Tryz.prog Tryz.f16 [.cut [(1, [0, 1])], .cut [(2, [0, 1])], .cut [(10, [14, 16]), (1, [])], .cut [(1, [4])]] false = some Tryz.fn16 := by kernel_rfl
theorem Tryz.fn17_ok : cfunL Tryz.prog Tryz.f17 [.cut [(1, [0])], .keep [2]] false = some Tryz.fn17 := by kernel_rfl
theorem Tryz.fn19_ok : cfunL Tryz.prog Tryz.f19 [.cut [(1, [0])], .cut [(1, [0, 3])], .keep [0, 3], .cut [(3, [0, 3, 4])], .cut [(2, [0, 3, 4, 8])], .cut [(5, [2])], .cut [(7, [0, 3, 4])], .cut [(5, [0, 3])]] true = some Tryz.fn19 := by kernel_rfl
theorem Tryz.fn20_ok : cfunL Tryz.prog Tryz.f20 [.cut [(2, [1])], .cut [(10, [1, 11, 12]), (10, [21, 22]), (4, [2])]] true = some Tryz.fn20 := by kernel_rfl
theorem Tryz.fn21_ok : cfunL Tryz.prog Tryz.f21 [.cut [(3, [1])], .cut [(3, [1, 9])], .cut [(2, [2, 3])], .keep [1, 4], .cut [(10, [1, 4, 18, 20, 22, 24, 26]), (3, [1, 4, 27, 28, 29])], .keep [1, 4, 27, 28, 29], .cut [(1, [1, 4, 27, 28, 29, 30])], .cut [(3, [1, 4, 6, 27, 28, 29])], .cut [(6, [1, 4, 27, 28, 29])], .cut [(2, [1, 4, 27, 28, 29])], .cut [(9, [2, 3])]] true = some Tryz.fn21 := by kernel_rfl
theorem Tryz.fn22_ok : cfunL Tryz.prog Tryz.f22 [.cut [(2, [0, 1])], .cut [(2, [0, 1])], .cut [(10, [1])], .cut [(4, [4, 5])]] false = some Tryz.fn22 := by kernel_rfl
theorem Tryz.fn24_ok : cfunL Tryz.prog Tryz.f24 [.cut [(1, [0])], .cut [(6, [2])]] false = some Tryz.fn24 := by kernel_rfl
theorem Tryz.fn25_ok : cfunL Tryz.prog Tryz.f25 [.cut [(2, [0, 2])], .cut [(3, [2, 4])], .cut [(3, [2, 4, 16])], .cut [(3, [2, 3])], .cut [(9, [2, 4, 5, 6])], .cut [(9, [2, 4, 5, 6, 7, 8])], .cut [(10, [2, 5, 6, 7, 8, 9, 10])], .cut [(10, [2, 5, 7, 9, 10, 48])], .cut [(3, [2, 3])], .cut [(6, [2, 10, 11])], .cut [(7, [2, 11, 60])], .cut [(3, [2, 3])], .cut [(3, [2, 3])]] true = some Tryz.fn25 := by kernel_rfl
theorem Tryz.fn26_ok : cfunL Tryz.prog Tryz.f26 [.cut [(1, [0])], .cut [(10, [0, 11, 13]), (10, [0, 23]), (4, [0, 27])], .cut [(1, [2])], .cut [(3, [0, 29, 30])], .keep [0, 29, 30], .cut [(1, [0, 29, 30, 31])], .cut [(2, [0, 3, 29, 30])], .cut [(10, [0, 29, 30, 42])], .cut [(1, [2])], .cut [(2, [0, 29, 30])], .cut [(1, [2])]] true = some Tryz.fn26 := by kernel_rfl
theorem Tryz.fn27_ok : cfunL Tryz.prog Tryz.f27 [.cut [(2, [1, 2, 3, 5])], .keep []] false = some Tryz.fn27 := by kernel_rfl
theorem Tryz.fn29_ok : cfunL Tryz.prog Tryz.f29 [.cut [(5, [0, 6])], .cut [(8, [])], .cut [(6, [19])], .cut [(1, [])]] false = some Tryz.fn29 := by kernel_rfl
theorem Tryz.fn33_ok : cfunL Tryz.prog Tryz.f33 [.cut [(2, [1])], .cut [(9, [1, 3])], .cut [(1, [2])], .cut [(10, [1, 22]), (6, [1, 12])], .cut [(1, [2])], .cut [(10, [1, 37, 38]), (9, [1, 28])], .cut [(1, [2])], .cut [(10, [1, 56]), (5, [2])]] true = some Tryz.fn33 := by kernel_rfl
theorem Tryz.fn34_ok : cfunL Tryz.prog Tryz.f34 [.cut [(1, [])], .cut [(2, [0])]] true = some Tryz.fn34 := by kernel_rfl
theorem Tryz.fn36_ok : cfunL Tryz.prog Tryz.f36 [.cut [(1, [0])], .cut [(1, [0, 3])], .cut [(1, [0, 3])], .cut [(3, [0, 3, 8, 9])], .keep [0, 3, 8, 9], .cut [(1, [0, 3, 8, 9, 10])], .cut [(2, [0, 3, 4, 8, 9])], .cut [(4, [0, 3, 5, 8, 9])], .cut [(4, [0, 3, 5, 8, 9, 24])], .cut [(2, [0, 3, 8, 9])], .cut [(7, [0, 3, 5, 8, 9, 30])], .cut [(1, [0, 3, 5, 8, 9])], .cut [(2, [0, 3, 8, 9])], .cut [(3, [0, 3, 5, 8, 9, 40])], .cut [(1, [0, 3, 8, 9])], .cut [(1, [0, 3, 5, 8, 9])], .cut [(4, [0, 3, 5, 8, 9])], .cut [(4, [0, 3, 8, 9])], .cut [(2, [0, 3, 8, 9])], .cut [(1, [3])], .cut [(2, [2])]] true = some Tryz.fn36 := by kernel_rfl
theorem Tryz.fn39_ok : cfunL Tryz.prog Tryz.f39 [.cut [(2, [0])], .cut [(10, [0, 8, 12, 15]), (2, [0, 17])], .cut [(2, [2, 3])], .cut [(1, [0, 4])], .cut [(3, [0, 4, 19, 20])], .keep [0, 4, 19, 20], .cut [(1, [0, 4, 19, 20, 21])], .cut [(2, [0, 4, 5, 19, 20])], .cut [(10, [0, 4, 5, 19, 20, 32])], .cut [(2, [2, 3])], .cut [(10, [0, 4, 19, 20])], .cut [(2, [0, 4, 19, 20])], .cut [(3, [2, 3])]] true = some Tryz.fn39 := by kernel_rfl
theorem Tryz.fn40_ok : cfunL Tryz.prog Tryz.f40 [.cut [(2, [0, 2])], .cut [(3, [2, 4])], .cut [(3, [2, 4, 19])], .cut [(3, [2, 3])], .keep [2, 4, 5], .cut [(9, [2, 4, 5, 6, 7])], .keep [2, 4, 5, 6, 47], .cut [(3, [2, 3])], .cut [(1, [2, 4, 5, 6, 8])], .cut [(1, [2, 4, 5, 6, 8, 9])], .cut [(1, [2, 4, 5, 6, 8, 9, 49])], .keep [2, 4, 5, 6, 8, 9, 49], .cut [(1, [2, 4, 5, 6, 8, 9, 49, 50])], .cut [(2, [2, 4, 5, 6, 8, 9, 10, 49])], .cut [(10, [2, 4, 5, 6, 8, 9, 10, 49, 59, 60, 61]), (3, [2, 4, 5, 6, 8, 9, 10, 11, 12, 13, 49])], .cut [(2, [2, 4, 5, 6, 8, 9, 10, 11, 13, 49, 63])], .cut [(3, [2, 3])], .cut [(4, [2, 4, 5, 6, 8, 9, 13, 49])], .cut [(5, [2, 4, 5, 6, 8, 9, 49])], .cut [(2, [2, 4, 5, 6, 8, 9, 49])], .cut [(10, [2, 6, 8, 73, 75, 77, 79, 81, 82]), (5, [2, 8, 14])], .cut [(7, [2, 14, 92])], .cut [(3, [2, 3])], .cut [(3, [2, 3])]] true = some Tryz.fn40 := by kernel_rfl
theorem Tryz.fn52_ok : cfunL Tryz.prog Tryz.f52 [.cut [(1, [0])], .cut [(10, [0, 12]), (5, [2])]] true = some Tryz.fn52 := by kernel_rfl
theorem Tryz.fn55_ok : cfunL Tryz.prog Tryz.f55 [.cut [(1, [0, 1])], .cut [(3, [0, 1, 7, 8])], .keep [0, 1, 7, 8], .cut [(1, [0, 1, 7, 8, 9])], .cut [(2, [0, 1, 5, 7, 8])], .cut [(6, [0, 1, 5, 7, 8, 16])], .cut [(2, [4])], .cut [(2, [0, 1, 7, 8])], .cut [(1, [4])]] true = some Tryz.fn55 := by kernel_rfl
theorem Tryz.fn56_ok : cfunL Tryz.prog Tryz.f56 [.cut [(2, [0])], .cut [(10, [0, 15, 16]), (6, [0, 22])], .cut [(2, [2, 3])], .cut [(6, [0])], .cut [(1, [0, 4])], .keep [0, 4], .cut [(2, [0, 4, 29])], .cut [(4, [0, 4, 33])], .keep [0, 4], .cut [(2, [0, 4, 5, 6])], .cut [(3, [0, 4, 5, 6, 43])], .cut [(7, [0, 4, 5, 6])], .cut [(2, [0, 4, 5, 6, 50])], .cut [(2, [2, 3])], .keep [0, 4], .cut [(4, [2, 3])]] true = some Tryz.fn56 := by kernel_rfl
theorem Tryz.fn57_ok : cfunL Tryz.prog Tryz.f57 [.cut [(3, [0])], .cut [(3, [0, 5])], .cut [(10, [0, 5, 12, 19]), (1, [0, 5, 20])], .cut [(3, [2, 3, 4])], .cut [(3, [0, 5, 22, 23])], .keep [0, 5, 22, 23], .cut [(1, [0, 5, 22, 23, 24])], .cut [(2, [0, 5, 6, 22, 23])], .cut [(10, [0, 5, 22, 23, 35])], .cut [(3, [2, 3, 4])], .cut [(2, [0, 5, 22, 23])], .cut [(7, [2, 7])], .keep [2, 3, 4]] true = some Tryz.fn57 := by kernel_rfl
theorem Tryz.fn60_ok : cfunL Tryz.prog Tryz.f60 [.cut [(1, [0, 1])], .cut [(10, [1, 10, 14]), (4, [4])]] true = some Tryz.fn60 := by kernel_rfl
theorem Tryz.fn74_ok : cfunL Tryz.prog Tryz.f74 [.cut [(2, [0])], .cut [(3, [0, 6])], .cut [(2, [2, 3])], .cut [(2, [0, 8])], .cut [(2, [0, 8, 9])], .cut [(2, [0, 8, 9])], .cut [(4, [2, 3])], .cut [(2, [0, 8, 14])], .cut [(2, [2, 3])], .cut [(2, [0, 16])], .cut [(10, [0, 27]), (5, [0, 32])], .cut [(2, [2, 3])], .keep [2, 3], .cut [(2, [2, 3])]] true = some Tryz.fn74 := by kernel_rfl
theorem Tryz.fn75_ok : cfunL Tryz.prog Tryz.f75 [.cut [(1, [0, 1])], .cut [(4, [4])]] true = some Tryz.fn75 := by kernel_rfl
theorem Tryz.fn88_ok : cfunL Tryz.prog Tryz.f88 [.cut [(1, [0])], .cut [(7, [0, 3])], .cut [(4, [2])], .cut [(7, [0, 13])], .cut [(5, [2])], .cut [(1, [2])]] true = some Tryz.fn88 := by kernel_rfl
theorem Tryz.fn89_ok : cfunL Tryz.prog Tryz.f89 [.cut [(1, [0, 1])], .cut [(3, [0, 1, 7])], .cut [(5, [4])], .cut [(2, [4])]] true = some Tryz.fn89 := by kernel_rfl
def Tryz.tab : List (Nat × AFun) :=
  [(3, Tryz.fn3), (4, Tryz.fn4), (5, Tryz.fn5), (6, Tryz.fn6), (7, Tryz.fn7), (8, Tryz.fn8), (9, Tryz.fn9), (10, Tryz.fn10), (11, Tryz.fn11), (12, Tryz.fn12), (13, Tryz.fn13), (14, Tryz.fn14), (15, Tryz.fn15), (16, Tryz.fn16), (17, Tryz.fn17), (19, Tryz.fn19), (20, Tryz.fn20), (21, Tryz.fn21), (22, Tryz.fn22), (24, Tryz.fn24), (25, Tryz.fn25), (26, Tryz.fn26), (27, Tryz.fn27), (29, Tryz.fn29), (33, Tryz.fn33), (34, Tryz.fn34), (36, Tryz.fn36), (39, Tryz.fn39), (40, Tryz.fn40), (52, Tryz.fn52), (55, Tryz.fn55), (56, Tryz.fn56), (57, Tryz.fn57), (60, Tryz.fn60), (74, Tryz.fn74), (75, Tryz.fn75), (88, Tryz.fn88), (89, Tryz.fn89)]
theorem Tryz.tabOk : TabOk Tryz.prog (lk Tryz.tab) :=
  tabOk_cons Tryz.func3 _ _ Tryz.fn3_ok <|
  tabOk_cons Tryz.func4 _ _ Tryz.fn4_ok <|
  tabOk_cons Tryz.func5 _ _ Tryz.fn5_ok <|
  tabOk_cons Tryz.func6 _ _ Tryz.fn6_ok <|
  tabOk_cons Tryz.func7 _ _ Tryz.fn7_ok <|
  tabOk_cons Tryz.func8 _ _ Tryz.fn8_ok <|
  tabOk_cons Tryz.func9 _ _ Tryz.fn9_ok <|
  tabOk_cons Tryz.func10 _ _ Tryz.fn10_ok <|
  tabOk_cons Tryz.func11 _ _ Tryz.fn11_ok <|
  tabOk_cons Tryz.func12 _ _ Tryz.fn12_ok <|
  tabOk_cons Tryz.func13 _ _ Tryz.fn13_ok <|
  tabOk_cons Tryz.func14 _ _ Tryz.fn14_ok <|
  tabOk_consD Tryz.func15 _ _ Tryz.fn15_ok <|
  tabOk_cons Tryz.func16 _ _ Tryz.fn16_ok <|
  tabOk_cons Tryz.func17 _ _ Tryz.fn17_ok <|
  tabOk_cons Tryz.func19 _ _ Tryz.fn19_ok <|
  tabOk_cons Tryz.func20 _ _ Tryz.fn20_ok <|
  tabOk_cons Tryz.func21 _ _ Tryz.fn21_ok <|
  tabOk_cons Tryz.func22 _ _ Tryz.fn22_ok <|
  tabOk_cons Tryz.func24 _ _ Tryz.fn24_ok <|
  tabOk_cons Tryz.func25 _ _ Tryz.fn25_ok <|
  tabOk_cons Tryz.func26 _ _ Tryz.fn26_ok <|
  tabOk_cons Tryz.func27 _ _ Tryz.fn27_ok <|
  tabOk_cons Tryz.func29 _ _ Tryz.fn29_ok <|
  tabOk_cons Tryz.func33 _ _ Tryz.fn33_ok <|
  tabOk_cons Tryz.func34 _ _ Tryz.fn34_ok <|
  tabOk_cons Tryz.func36 _ _ Tryz.fn36_ok <|
  tabOk_cons Tryz.func39 _ _ Tryz.fn39_ok <|
  tabOk_cons Tryz.func40 _ _ Tryz.fn40_ok <|
  tabOk_cons Tryz.func52 _ _ Tryz.fn52_ok <|
  tabOk_cons Tryz.func55 _ _ Tryz.fn55_ok <|
  tabOk_cons Tryz.func56 _ _ Tryz.fn56_ok <|
  tabOk_cons Tryz.func57 _ _ Tryz.fn57_ok <|
  tabOk_cons Tryz.func60 _ _ Tryz.fn60_ok <|
  tabOk_cons Tryz.func74 _ _ Tryz.fn74_ok <|
  tabOk_cons Tryz.func75 _ _ Tryz.fn75_ok <|
  tabOk_cons Tryz.func88 _ _ Tryz.fn88_ok <|
  tabOk_cons Tryz.func89 _ _ Tryz.fn89_ok <|
  tabOk_nil _
end Go.Am
