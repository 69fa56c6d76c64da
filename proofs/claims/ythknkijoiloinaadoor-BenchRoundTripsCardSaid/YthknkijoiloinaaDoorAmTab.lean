/-
The functions of this cut as the abstract machine has them, and that they are what the compiler makes of the program's. Written by a program. Conditions: none.
-/
import Derived.Test.YthknkijoiloinaaDoorMb
import Derived.Test.YthknkijoiloinaaDoorProg
import Derived.KernelRfl
namespace Go.Am
open Go.Proofs

theorem tabOk_nil (P : Program) : TabOk P (lk []) := fun f fn h => by cases h
theorem tabOk_cons {P : Program} {i : Nat} {fn : AFun} {l : List (Nat × AFun)} {F : Func} (hF : P.funcs[i]? = some F) (h : List Hint) (v : Bool) (hc : cfunL P F h v = some fn) (hl : TabOk P (lk l)) : TabOk P (lk ((i, fn) :: l)) := fun f fn' hf => by
  by_cases e : i = f
  · subst e
    simp [lk] at hf
    subst hf
    exact ⟨F, h, v, hF, hc⟩
  · simp [lk, e] at hf
    exact hl f fn' hf

/-! signalbench/signalbenchlaw57.BenchPrints -/
def Tryd.fn3_r0 : List AIns :=
   [⟨(some 1), .box 24 (.t 0), .none⟩,
    ⟨(some 2), .mov (.c (.bool false)), .none⟩]
def Tryd.fn3_r1 : List AIns :=
   [⟨(some 7), .ldn 1 (.t 1), .none⟩,
     ⟨(some 8), .call 7 [(.t 7)], .none⟩,
     ⟨(some 9), .un .not (.t 8), .none⟩]
def Tryd.fn3_r2 : List AIns :=
   [⟨(some 10), .call 8 [], .none⟩,
      ⟨(some 2), .mov (.t 10), .none⟩]
def Tryd.fn3_r3 : List AIns :=
   [⟨(some 12), .ldn 1 (.t 1), .none⟩,
    ⟨(some 13), .call 9 [(.t 12)], .none⟩,
    ⟨(some 11), .mov (.t 13), .none⟩,
    ⟨(some 14), .ext 0 (.t 11), .none⟩,
    ⟨(some 15), .ext 1 (.t 11), .none⟩,
    ⟨(some 3), .mov (.t 14), .none⟩,
    ⟨(some 4), .mov (.t 15), .none⟩]
def Tryd.fn3_r4 : List AIns :=
   [⟨(some 17), .ldn 1 (.t 1), .none⟩,
    ⟨(some 18), .call 10 [(.t 17)], .none⟩,
    ⟨(some 16), .mov (.t 18), .none⟩,
    ⟨(some 19), .ext 0 (.t 16), .none⟩,
    ⟨(some 20), .ext 1 (.t 16), .none⟩,
    ⟨(some 5), .mov (.t 19), .none⟩,
    ⟨(some 6), .mov (.t 20), .none⟩]
def Tryd.fn3_r5 : List AIns :=
   [⟨(some 21), .mov (.t 3), .none⟩,
     ⟨(some 22), .mov (.t 5), .none⟩,
     ⟨(some 23), .bin .eql (.t 21) (.t 22), .none⟩,
     ⟨(some 24), .mov (.t 23), .none⟩,
     ⟨(some 25), .mov (.t 4), (some (24, true))⟩,
     ⟨(some 26), .mov (.t 6), (some (24, true))⟩,
     ⟨(some 27), .bin .eql (.t 25) (.t 26), (some (24, true))⟩,
     ⟨(some 28), .pick (.t 24) (.t 27) (.c (.bool false)), .none⟩,
     ⟨(some 29), .mov (.t 28), .none⟩,
     ⟨(some 30), .call 8 [], (some (29, true))⟩]
def Tryd.fn3_r6 : List AIns :=
   [⟨(some 31), .pick (.t 29) (.t 30) (.c (.bool false)), .none⟩,
    ⟨(some 2), .mov (.t 31), .none⟩]
def Tryd.fn3 : AFun :=
 ⟨32, [.tmp 2],
 (.seq (.seq (.reg Tryd.fn3_r0)
  (.trim [1]))
 (.seq (.seq (.seq (.reg Tryd.fn3_r1)
   (.trim [1, 9]))
  (.cond (.t 9)
   (.seq (.seq (.reg Tryd.fn3_r2)
    (.trim [2]))
   .ret)
   .skip))
 (.seq (.seq (.reg Tryd.fn3_r3)
  (.trim [1, 3, 4]))
 (.seq (.seq (.reg Tryd.fn3_r4)
  (.trim [3, 4, 5, 6]))
 (.seq (.seq (.seq (.reg Tryd.fn3_r5)
   (.trim [29, 30]))
  (.seq (.reg Tryd.fn3_r6)
  (.trim [2])))
 .ret))))), true⟩
/-! signalbench/signalbenchlaw57.BenchParses -/
def Tryd.fn4_r0 : List AIns :=
   [⟨(some 2), .mov (.c (.bool false)), .none⟩]
def Tryd.fn4_r1 : List AIns :=
   [⟨(some 9), .mov (.t 0), .none⟩,
     ⟨(some 10), .lens (.t 9), .none⟩,
     ⟨(some 11), .bin .gtr (.t 10) (.c (.int .i64 4000)), .none⟩]
def Tryd.fn4_r2 : List AIns :=
   [⟨(some 12), .call 8 [], .none⟩,
      ⟨(some 2), .mov (.t 12), .none⟩]
def Tryd.fn4_r3 : List AIns :=
   [⟨(some 14), .mov (.t 0), .none⟩,
    ⟨(some 15), .call 11 [(.t 14)], .none⟩,
    ⟨(some 13), .mov (.t 15), .none⟩,
    ⟨(some 16), .ext 0 (.t 13), .none⟩,
    ⟨(some 17), .ext 1 (.t 13), .none⟩,
    ⟨(some 18), .ext 2 (.t 13), .none⟩,
    ⟨(some 3), .alloc 24 [.nils], .none⟩,
    ⟨.none, .st 1 (.t 3) (.t 16), .none⟩,
    ⟨(some 4), .mov (.t 17), .none⟩,
    ⟨(some 5), .mov (.t 18), .none⟩]
def Tryd.fn4_r4 : List AIns :=
   [⟨(some 20), .mov (.t 0), .none⟩,
    ⟨(some 21), .call 12 [(.t 20)], .none⟩,
    ⟨(some 19), .mov (.t 21), .none⟩,
    ⟨(some 22), .ext 0 (.t 19), .none⟩,
    ⟨(some 23), .ext 1 (.t 19), .none⟩,
    ⟨(some 24), .ext 2 (.t 19), .none⟩,
    ⟨(some 6), .alloc 24 [.nils], .none⟩,
    ⟨.none, .st 1 (.t 6) (.t 22), .none⟩,
    ⟨(some 7), .mov (.t 23), .none⟩,
    ⟨(some 8), .mov (.t 24), .none⟩]
def Tryd.fn4_r5 : List AIns :=
   [⟨(some 25), .mov (.t 5), .none⟩,
     ⟨(some 26), .mov (.t 8), .none⟩,
     ⟨(some 27), .bin .eql (.t 25) (.t 26), .none⟩,
     ⟨(some 28), .mov (.t 27), .none⟩,
     ⟨(some 29), .mov (.t 4), (some (28, true))⟩,
     ⟨(some 30), .mov (.t 7), (some (28, true))⟩,
     ⟨(some 31), .bin .eql (.t 29) (.t 30), (some (28, true))⟩,
     ⟨(some 32), .pick (.t 28) (.t 31) (.c (.bool false)), .none⟩,
     ⟨(some 33), .mov (.t 32), .none⟩,
     ⟨(some 34), .ldn 1 (.t 3), (some (33, true))⟩]
def Tryd.fn4_r6 : List AIns :=
   [⟨(some 35), .ldn 1 (.t 6), (some (33, true))⟩,
    ⟨(some 36), .call 13 [(.t 34), (.t 35)], (some (33, true))⟩,
    ⟨(some 37), .pick (.t 33) (.t 36) (.c (.bool false)), .none⟩,
    ⟨(some 38), .mov (.t 37), .none⟩,
    ⟨(some 39), .call 8 [], (some (38, true))⟩,
    ⟨(some 40), .pick (.t 38) (.t 39) (.c (.bool false)), .none⟩,
    ⟨(some 2), .mov (.t 40), .none⟩]
def Tryd.fn4 : AFun :=
 ⟨41, [.tmp 2],
 (.seq (.seq (.reg Tryd.fn4_r0)
  (.trim [0]))
 (.seq (.seq (.seq (.reg Tryd.fn4_r1)
   (.trim [0, 11]))
  (.cond (.t 11)
   (.seq (.seq (.reg Tryd.fn4_r2)
    (.trim [2]))
   .ret)
   .skip))
 (.seq (.seq (.reg Tryd.fn4_r3)
  (.trim [0, 3, 4, 5]))
 (.seq (.seq (.reg Tryd.fn4_r4)
  (.trim [3, 4, 5, 6, 7, 8]))
 (.seq (.seq (.seq (.reg Tryd.fn4_r5)
   (.trim [6, 33, 34]))
  (.seq (.reg Tryd.fn4_r6)
  (.trim [2])))
 .ret))))), true⟩
/-! signalbench/signalbenchlaw57.BenchRoundTrips -/
def Tryd.fn5_r0 : List AIns :=
   [⟨(some 2), .box 24 (.t 0), .none⟩,
    ⟨(some 4), .mov (.c (.bool false)), .none⟩]
def Tryd.fn5_r1 : List AIns :=
   [⟨(some 15), .ldn 1 (.t 2), .none⟩,
     ⟨(some 16), .call 7 [(.t 15)], .none⟩,
     ⟨(some 17), .un .not (.t 16), .none⟩,
     ⟨(some 18), .mov (.t 17), .none⟩,
     ⟨(some 19), .mov (.t 1), (some (18, false))⟩,
     ⟨(some 20), .lens (.t 19), (some (18, false))⟩,
     ⟨(some 21), .bin .gtr (.t 20) (.c (.int .i64 4000)), (some (18, false))⟩,
     ⟨(some 22), .pick (.t 18) (.c (.bool true)) (.t 21), .none⟩]
def Tryd.fn5_r2 : List AIns :=
   [⟨(some 23), .call 8 [], .none⟩,
      ⟨(some 4), .mov (.t 23), .none⟩]
def Tryd.fn5_r3 : List AIns :=
   [⟨(some 25), .ldn 1 (.t 2), .none⟩,
     ⟨(some 26), .call 9 [(.t 25)], .none⟩,
     ⟨(some 24), .mov (.t 26), .none⟩,
     ⟨(some 27), .ext 0 (.t 24), .none⟩,
     ⟨(some 28), .ext 1 (.t 24), .none⟩,
     ⟨(some 5), .mov (.t 27), .none⟩,
     ⟨(some 6), .mov (.t 28), .none⟩]
def Tryd.fn5_r4 : List AIns :=
   [⟨(some 29), .mov (.t 6), .none⟩,
     ⟨(some 30), .bin .eql (.t 29) (.c (.int .i64 0)), .none⟩]
def Tryd.fn5_r5 : List AIns :=
   [⟨(some 32), .mov (.t 5), .none⟩,
      ⟨(some 33), .call 11 [(.t 32)], .none⟩,
      ⟨(some 31), .mov (.t 33), .none⟩,
      ⟨(some 34), .ext 0 (.t 31), .none⟩,
      ⟨(some 35), .ext 1 (.t 31), .none⟩,
      ⟨(some 36), .ext 2 (.t 31), .none⟩,
      ⟨(some 7), .alloc 24 [.nils], .none⟩,
      ⟨.none, .st 1 (.t 7) (.t 34), .none⟩,
      ⟨(some 8), .mov (.t 35), .none⟩,
      ⟨(some 9), .mov (.t 36), .none⟩]
def Tryd.fn5_r6 : List AIns :=
   [⟨(some 37), .mov (.t 9), .none⟩,
       ⟨(some 38), .bin .neq (.t 37) (.c (.int .i64 0)), .none⟩,
       ⟨(some 39), .mov (.t 38), .none⟩,
       ⟨(some 40), .mov (.t 8), (some (39, false))⟩,
       ⟨(some 41), .bin .neq (.t 40) (.c (.int .i64 0)), (some (39, false))⟩,
       ⟨(some 42), .pick (.t 39) (.c (.bool true)) (.t 41), .none⟩,
       ⟨(some 43), .mov (.t 42), .none⟩,
       ⟨(some 44), .ldn 1 (.t 2), (some (43, false))⟩,
       ⟨(some 45), .ldn 1 (.t 7), (some (43, false))⟩,
       ⟨(some 46), .call 13 [(.t 44), (.t 45)], (some (43, false))⟩]
def Tryd.fn5_r7 : List AIns :=
   [⟨(some 47), .un .not (.t 46), (some (43, false))⟩,
      ⟨(some 48), .pick (.t 43) (.c (.bool true)) (.t 47), .none⟩]
def Tryd.fn5_r8 : List AIns :=
   [⟨(some 4), .mov (.c (.bool false)), .none⟩]
def Tryd.fn5_r9 : List AIns :=
   [⟨(some 50), .mov (.t 1), .none⟩,
     ⟨(some 51), .call 11 [(.t 50)], .none⟩,
     ⟨(some 49), .mov (.t 51), .none⟩,
     ⟨(some 52), .ext 0 (.t 49), .none⟩,
     ⟨(some 53), .ext 1 (.t 49), .none⟩,
     ⟨(some 54), .ext 2 (.t 49), .none⟩,
     ⟨(some 10), .alloc 24 [.nils], .none⟩,
     ⟨.none, .st 1 (.t 10) (.t 52), .none⟩,
     ⟨(some 11), .mov (.t 53), .none⟩,
     ⟨(some 12), .mov (.t 54), .none⟩]
def Tryd.fn5_r10 : List AIns :=
   [⟨(some 55), .mov (.t 12), .none⟩,
     ⟨(some 56), .bin .eql (.t 55) (.c (.int .i64 0)), .none⟩]
def Tryd.fn5_r11 : List AIns :=
   [⟨(some 58), .ldn 1 (.t 10), .none⟩,
      ⟨(some 59), .call 9 [(.t 58)], .none⟩,
      ⟨(some 57), .mov (.t 59), .none⟩,
      ⟨(some 60), .ext 0 (.t 57), .none⟩,
      ⟨(some 61), .ext 1 (.t 57), .none⟩,
      ⟨(some 13), .mov (.t 60), .none⟩,
      ⟨(some 14), .mov (.t 61), .none⟩]
def Tryd.fn5_r12 : List AIns :=
   [⟨(some 62), .mov (.t 14), .none⟩,
      ⟨(some 63), .bin .neq (.t 62) (.c (.int .i64 0)), .none⟩,
      ⟨(some 64), .mov (.t 63), .none⟩,
      ⟨(some 65), .mov (.t 13), (some (64, false))⟩,
      ⟨(some 66), .mov (.t 1), (some (64, false))⟩,
      ⟨(some 67), .bin .neq (.t 65) (.t 66), (some (64, false))⟩,
      ⟨(some 68), .pick (.t 64) (.c (.bool true)) (.t 67), .none⟩]
def Tryd.fn5_r13 : List AIns :=
   [⟨(some 4), .mov (.c (.bool false)), .none⟩]
def Tryd.fn5_r14 : List AIns :=
   [⟨(some 69), .call 8 [], .none⟩,
    ⟨(some 4), .mov (.t 69), .none⟩]
def Tryd.fn5 : AFun :=
 ⟨70, [.tmp 4],
 (.seq (.seq (.reg Tryd.fn5_r0)
  (.trim [1, 2]))
 (.seq (.seq (.seq (.reg Tryd.fn5_r1)
   (.trim [1, 2, 22]))
  (.cond (.t 22)
   (.seq (.seq (.reg Tryd.fn5_r2)
    (.trim [4]))
   .ret)
   .skip))
 (.seq (.seq (.seq (.reg Tryd.fn5_r3)
   (.trim [1, 2, 5, 6]))
  (.seq (.seq (.reg Tryd.fn5_r4)
   (.trim [1, 2, 5, 30]))
  (.cond (.t 30)
   (.seq (.seq (.reg Tryd.fn5_r5)
    (.trim [1, 2, 7, 8, 9]))
   (.seq (.seq (.seq (.reg Tryd.fn5_r6)
     (.trim [1, 43, 46]))
    (.seq (.reg Tryd.fn5_r7)
    (.trim [1, 48])))
   (.cond (.t 48)
    (.seq (.seq (.reg Tryd.fn5_r8)
     (.trim [4]))
    .ret)
    .skip)))
   .skip)))
 (.seq (.seq (.seq (.reg Tryd.fn5_r9)
   (.trim [1, 10, 12]))
  (.seq (.seq (.reg Tryd.fn5_r10)
   (.trim [1, 10, 56]))
  (.cond (.t 56)
   (.seq (.seq (.reg Tryd.fn5_r11)
    (.trim [1, 13, 14]))
   (.seq (.seq (.reg Tryd.fn5_r12)
    (.trim [68]))
   (.cond (.t 68)
    (.seq (.seq (.reg Tryd.fn5_r13)
     (.trim [4]))
    .ret)
    .skip)))
   .skip)))
 (.seq (.seq (.reg Tryd.fn5_r14)
  (.trim [4]))
 .ret))))), true⟩
/-! signalbench/signalbenchlaw57.BenchFinds -/
def Tryd.fn6_r0 : List AIns :=
   [⟨(some 3), .box 24 (.t 0), .none⟩,
    ⟨(some 6), .mov (.c (.bool false)), .none⟩]
def Tryd.fn6_r1 : List AIns :=
   [⟨(some 7), .fa 0 (.t 3), .none⟩,
     ⟨(some 8), .ld1 (.t 7), .none⟩,
     ⟨(some 9), .lenl (.t 8), .none⟩,
     ⟨(some 10), .bin .gtr (.t 9) (.c (.int .i64 6)), .none⟩]
def Tryd.fn6_r2 : List AIns :=
   [⟨(some 11), .call 8 [], .none⟩,
      ⟨(some 6), .mov (.t 11), .none⟩]
def Tryd.fn6_r3b : List DIns :=
   ⟨⟨(some 6), .mov (.t 23), .none⟩, [11, 10, 0, 1, 2, 3, 4, 5, 6, 7, 8, 9], [], 0⟩ ::
   []
def Tryd.fn6_r3a : List DIns :=
   ⟨⟨(some 18), .mov (.t 2), .none⟩, [], [7, 8, 9, 10, 11, 12], 0⟩ ::
   ⟨⟨(some 19), .call 15 [(.t 16), (.t 17), (.t 18)], .none⟩, [4, 5, 6, 3, 0, 1, 2], [8, 9, 10, 11, 12], 2⟩ ::
   ⟨⟨(some 20), .bin .eql (.t 15) (.t 19), .none⟩, [3, 7, 0, 1, 2, 4, 5, 6], [9, 10, 11, 12], 0⟩ ::
   ⟨⟨(some 21), .mov (.t 20), .none⟩, [8, 7, 3, 0, 1, 2, 4, 5, 6], [10, 11, 12], 0⟩ ::
   ⟨⟨(some 22), .call 8 [], (some (21, true))⟩, [9, 8, 7, 3, 0, 1, 2, 4, 5, 6], [11, 12], 2⟩ ::
   ⟨⟨(some 23), .pick (.t 21) (.t 22) (.c (.bool false)), .none⟩, [9, 10, 8, 7, 3, 0, 1, 2, 4, 5, 6], [12], 0⟩ ::
   Tryd.fn6_r3b
def Tryd.fn6_r3 : List DIns :=
   ⟨⟨(some 12), .ldn 1 (.t 3), .none⟩, [], [3, 7, 8, 9, 10, 11, 12], 1⟩ ::
   ⟨⟨(some 13), .mov (.t 1), .none⟩, [], [3, 7, 8, 9, 10, 11, 12], 0⟩ ::
   ⟨⟨(some 14), .mov (.t 2), .none⟩, [], [3, 7, 8, 9, 10, 11, 12], 0⟩ ::
   ⟨⟨(some 15), .call 14 [(.t 12), (.t 13), (.t 14)], .none⟩, [0, 1, 2], [7, 8, 9, 10, 11, 12], 1⟩ ::
   ⟨⟨(some 16), .ldn 1 (.t 3), .none⟩, [], [7, 8, 9, 10, 11, 12], 1⟩ ::
   ⟨⟨(some 17), .mov (.t 1), .none⟩, [], [7, 8, 9, 10, 11, 12], 0⟩ ::
   Tryd.fn6_r3a
def Tryd.fn6 : AFun :=
 ⟨24, [.tmp 6],
 (.seq (.seq (.reg Tryd.fn6_r0)
  (.trim [1, 2, 3]))
 (.seq (.seq (.seq (.reg Tryd.fn6_r1)
   (.trim [1, 2, 3, 10]))
  (.cond (.t 10)
   (.seq (.seq (.reg Tryd.fn6_r2)
    (.trim [6]))
   .ret)
   .skip))
 (.seq (.seq (.regd Tryd.fn6_r3)
  (.trim [6]))
 .ret))), true⟩
/-! signalbench/signalbenchlaw57.Small -/
def Tryd.fn7_r0 : List AIns :=
   [⟨(some 1), .box 24 (.t 0), .none⟩,
    ⟨(some 2), .mov (.c (.bool false)), .none⟩]
def Tryd.fn7_r1 : List AIns :=
   [⟨(some 4), .fa 0 (.t 1), .none⟩,
     ⟨(some 5), .ld1 (.t 4), .none⟩,
     ⟨(some 6), .lenl (.t 5), .none⟩,
     ⟨(some 7), .bin .gtr (.t 6) (.c (.int .i64 6)), .none⟩]
def Tryd.fn7_r2 : List AIns :=
   [⟨(some 2), .mov (.c (.bool false)), .none⟩]
def Tryd.fn7_r3 : List AIns :=
   [⟨(some 3), .mov (.c (.int .i64 0)), .none⟩]
def Tryd.fn7_r4 : List AIns :=
   [⟨(some 8), .mov (.t 3), .none⟩,
        ⟨(some 9), .fa 0 (.t 1), .none⟩,
        ⟨(some 10), .ld1 (.t 9), .none⟩,
        ⟨(some 11), .lenl (.t 10), .none⟩,
        ⟨(some 12), .bin .lss (.t 8) (.t 11), .none⟩]
def Tryd.fn7_r5 : List AIns :=
   [⟨(some 15), .fa 0 (.t 1), .none⟩,
         ⟨(some 16), .ld1 (.t 15), .none⟩,
         ⟨(some 17), .mov (.t 3), .none⟩,
         ⟨(some 18), .ia 3 (.t 16) (.t 17), .none⟩,
         ⟨(some 19), .fa 2 (.t 18), .none⟩,
         ⟨(some 20), .ld1 (.t 19), .none⟩,
         ⟨(some 21), .lens (.t 20), .none⟩,
         ⟨(some 22), .bin .gtr (.t 21) (.c (.int .i64 8000)), .none⟩]
def Tryd.fn7_r6 : List AIns :=
   [⟨(some 2), .mov (.c (.bool false)), .none⟩]
def Tryd.fn7_r7 : List AIns :=
   [⟨(some 13), .mov (.t 3), .none⟩,
      ⟨(some 14), .bin .add (.t 13) (.c (.int .i64 1)), .none⟩,
      ⟨(some 3), .mov (.t 14), .none⟩]
def Tryd.fn7_r8 : List AIns :=
   [⟨(some 2), .mov (.c (.bool true)), .none⟩]
def Tryd.fn7_l0 : ACode :=
 (.seq (.seq (.seq (.reg Tryd.fn7_r4)
      (.trim [1, 3, 12]))
     (.cond (.t 12)
      .skip
      (.exit 0)))
    (.seq (.block 1
      (.seq (.seq (.reg Tryd.fn7_r5)
       (.trim [1, 3, 22]))
      (.cond (.t 22)
       (.seq (.seq (.reg Tryd.fn7_r6)
        (.trim [2]))
       .ret)
       .skip)))
    (.seq (.reg Tryd.fn7_r7)
    (.trim [1, 3]))))
def Tryd.fn7 : AFun :=
 ⟨23, [.tmp 2],
 (.seq (.seq (.reg Tryd.fn7_r0)
  (.trim [1]))
 (.seq (.seq (.seq (.reg Tryd.fn7_r1)
   (.trim [1, 7]))
  (.cond (.t 7)
   (.seq (.seq (.reg Tryd.fn7_r2)
    (.trim [2]))
   .ret)
   .skip))
 (.seq (.seq (.seq (.reg Tryd.fn7_r3)
   (.trim [1, 3]))
  (.block 0
   (.loop (some [1, 3])
    Tryd.fn7_l0)))
 (.seq (.seq (.reg Tryd.fn7_r8)
  (.trim [2]))
 .ret)))), true⟩
/-! signalbench/signalbenchlaw57.examples -/
def Tryd.fn8_r0 : List AIns :=
   [⟨(some 0), .mov (.c (.bool false)), .none⟩]
def Tryd.fn8_r1 : List AIns :=
   [⟨(some 7), .bld [(.str []), (.str []), (.str [])] [(0, 1, (.c (.str [108, 105, 109, 105, 116, 115]))), (1, 1, (.c (.str [108])))], .none⟩,
    ⟨(some 8), .bsl 38 3 1 [(.str []), (.str []), (.str [])] [(0, 3, (.t 7))], .none⟩,
    ⟨(some 9), .bld [.nils] [(0, 1, (.t 8))], .none⟩,
    ⟨(some 10), .call 9 [(.t 9)], .none⟩,
    ⟨(some 6), .mov (.t 10), .none⟩,
    ⟨(some 11), .ext 0 (.t 6), .none⟩,
    ⟨(some 12), .ext 1 (.t 6), .none⟩,
    ⟨(some 1), .mov (.t 11), .none⟩,
    ⟨(some 2), .mov (.t 12), .none⟩]
def Tryd.fn8_r2 : List AIns :=
   [⟨(some 14), .call 11 [(.c (.str [61, 61, 32, 108, 105, 109, 105, 116, 115, 32, 108, 32, 48, 10]))], .none⟩,
    ⟨(some 13), .mov (.t 14), .none⟩,
    ⟨(some 15), .ext 0 (.t 13), .none⟩,
    ⟨(some 16), .ext 1 (.t 13), .none⟩,
    ⟨(some 17), .ext 2 (.t 13), .none⟩,
    ⟨(some 3), .alloc 24 [.nils], .none⟩,
    ⟨.none, .st 1 (.t 3) (.t 15), .none⟩,
    ⟨(some 4), .mov (.t 16), .none⟩,
    ⟨(some 5), .mov (.t 17), .none⟩]
def Tryd.fn8_r3 : List AIns :=
   [⟨(some 18), .mov (.t 1), .none⟩,
     ⟨(some 19), .bin .eql (.t 18) (.c (.str [61, 61, 32, 108, 105, 109, 105, 116, 115, 32, 108, 32, 48, 10])), .none⟩,
     ⟨(some 20), .mov (.t 19), .none⟩,
     ⟨(some 21), .mov (.t 2), (some (20, true))⟩,
     ⟨(some 22), .bin .eql (.t 21) (.c (.int .i64 0)), (some (20, true))⟩,
     ⟨(some 23), .pick (.t 20) (.t 22) (.c (.bool false)), .none⟩,
     ⟨(some 24), .mov (.t 23), .none⟩,
     ⟨(some 25), .mov (.t 4), (some (24, true))⟩,
     ⟨(some 26), .bin .eql (.t 25) (.c (.int .i64 0)), (some (24, true))⟩,
     ⟨(some 27), .pick (.t 24) (.t 26) (.c (.bool false)), .none⟩]
def Tryd.fn8_r4 : List AIns :=
   [⟨(some 28), .mov (.t 27), .none⟩,
     ⟨(some 29), .mov (.t 5), (some (28, true))⟩,
     ⟨(some 30), .bin .eql (.t 29) (.c (.int .i64 0)), (some (28, true))⟩,
     ⟨(some 31), .pick (.t 28) (.t 30) (.c (.bool false)), .none⟩,
     ⟨(some 32), .mov (.t 31), .none⟩,
     ⟨(some 33), .fa 0 (.t 3), (some (32, true))⟩,
     ⟨(some 34), .ld1 (.t 33), (some (32, true))⟩,
     ⟨(some 35), .lenl (.t 34), (some (32, true))⟩,
     ⟨(some 36), .bin .eql (.t 35) (.c (.int .i64 1)), (some (32, true))⟩,
     ⟨(some 37), .pick (.t 32) (.t 36) (.c (.bool false)), .none⟩]
def Tryd.fn8_r5 : List AIns :=
   [⟨(some 38), .mov (.t 37), .none⟩,
    ⟨(some 39), .fa 0 (.t 3), (some (38, true))⟩,
    ⟨(some 40), .ld1 (.t 39), (some (38, true))⟩,
    ⟨(some 41), .ia 3 (.t 40) (.c (.int .i64 0)), (some (38, true))⟩,
    ⟨(some 42), .fa 1 (.t 41), (some (38, true))⟩,
    ⟨(some 43), .ld1 (.t 42), (some (38, true))⟩,
    ⟨(some 44), .bin .eql (.t 43) (.c (.str [108])), (some (38, true))⟩,
    ⟨(some 45), .pick (.t 38) (.t 44) (.c (.bool false)), .none⟩,
    ⟨(some 0), .mov (.t 45), .none⟩]
def Tryd.fn8 : AFun :=
 ⟨46, [.tmp 0],
 (.seq (.seq (.reg Tryd.fn8_r0)
  (.trim []))
 (.seq (.seq (.reg Tryd.fn8_r1)
  (.trim [1, 2]))
 (.seq (.seq (.reg Tryd.fn8_r2)
  (.trim [1, 2, 3, 4, 5]))
 (.seq (.seq (.seq (.reg Tryd.fn8_r3)
   (.trim [3, 5, 27]))
  (.seq (.seq (.reg Tryd.fn8_r4)
   (.trim [3, 37]))
  (.seq (.reg Tryd.fn8_r5)
  (.trim [0]))))
 .ret)))), true⟩
/-! signalbench/bench.Print -/
def Tryd.fn9_r0 : List AIns :=
   [⟨(some 1), .box 24 (.t 0), .none⟩,
    ⟨(some 2), .mov (.c (.str [])), .none⟩,
    ⟨(some 3), .mov (.c (.int .i64 0)), .none⟩]
def Tryd.fn9_r1 : List AIns :=
   [⟨(some 10), .fa 0 (.t 1), .none⟩,
     ⟨(some 11), .ld1 (.t 10), .none⟩,
     ⟨(some 12), .lenl (.t 11), .none⟩,
     ⟨(some 13), .mov (.c (.int .i64 0)), .none⟩]
def Tryd.fn9_r2 : List AIns :=
   [⟨(some 14), .bin .lss (.t 13) (.t 12), .none⟩]
def Tryd.fn9_r3 : List AIns :=
   [⟨(some 15), .ia 3 (.t 11) (.t 13), .none⟩,
         ⟨(some 16), .ldn 3 (.t 15), .none⟩,
         ⟨(some 5), .alloc 38 [(.str []), (.str []), (.str [])], .none⟩,
         ⟨.none, .st 3 (.t 5) (.t 16), .none⟩]
def Tryd.fn9_r4 : List AIns :=
   [⟨(some 17), .ldn 3 (.t 5), .none⟩,
         ⟨(some 18), .call 16 [(.t 17)], .none⟩,
         ⟨(some 6), .mov (.t 18), .none⟩]
def Tryd.fn9_r5 : List AIns :=
   [⟨(some 19), .mov (.t 6), .none⟩,
         ⟨(some 20), .bin .neq (.t 19) (.c (.int .i64 0)), .none⟩]
def Tryd.fn9_r6 : List AIns :=
   [⟨(some 21), .mov (.t 6), .none⟩,
          ⟨(some 2), .mov (.c (.str [])), .none⟩,
          ⟨(some 3), .mov (.t 21), .none⟩]
def Tryd.fn9_r7 : List AIns :=
   [⟨(some 22), .bin .add (.t 13) (.c (.int .i64 1)), .none⟩,
      ⟨(some 13), .mov (.t 22), .none⟩]
def Tryd.fn9_r8 : List AIns :=
   [⟨(some 7), .alloc 43 [.nilp, .nils], .none⟩]
def Tryd.fn9_r9 : List AIns :=
   [⟨(some 23), .fa 0 (.t 1), .none⟩,
     ⟨(some 24), .ld1 (.t 23), .none⟩,
     ⟨(some 25), .lenl (.t 24), .none⟩,
     ⟨(some 26), .mov (.c (.int .i64 0)), .none⟩]
def Tryd.fn9_r10 : List AIns :=
   [⟨(some 27), .bin .lss (.t 26) (.t 25), .none⟩]
def Tryd.fn9_r11 : List AIns :=
   [⟨(some 28), .ia 3 (.t 24) (.t 26), .none⟩,
         ⟨(some 29), .ldn 3 (.t 28), .none⟩,
         ⟨(some 9), .alloc 38 [(.str []), (.str []), (.str [])], .none⟩,
         ⟨.none, .st 3 (.t 9) (.t 29), .none⟩]
def Tryd.fn9_r12b : List DIns :=
   ⟨⟨(some 42), .bin .add (.t 37) (.t 41), .none⟩, [7, 11, 6, 3, 5, 2, 1, 0, 4, 10, 9, 8], [13, 16, 17], 0⟩ ::
   ⟨⟨(some 43), .bin .add (.t 42) (.c (.str [10])), .none⟩, [12, 7, 11, 6, 3, 5, 2, 1, 0, 4, 10, 9, 8], [16, 17], 0⟩ ::
   ⟨⟨(some 44), .fa 2 (.t 9), .none⟩, [], [15, 16, 17], 0⟩ ::
   ⟨⟨(some 45), .ld1 (.t 44), .none⟩, [14], [16, 17], 1⟩ ::
   ⟨⟨(some 46), .bin .add (.t 43) (.t 45), .none⟩, [13, 15, 12, 7, 11, 6, 3, 5, 2, 1, 0, 4, 10, 9, 8, 14], [17], 0⟩ ::
   ⟨⟨(some 47), .call 17 [(.t 7), (.t 46)], .none⟩, [16, 11, 13, 15, 12, 7, 6, 3, 5, 2, 1, 0, 4, 10, 9, 8, 14], [], 2⟩ ::
   []
def Tryd.fn9_r12a : List DIns :=
   ⟨⟨(some 36), .bin .add (.t 33) (.t 35), .none⟩, [3, 5, 2, 1, 0, 4], [7, 12, 13, 16, 17], 0⟩ ::
   ⟨⟨(some 37), .bin .add (.t 36) (.c (.str [32])), .none⟩, [6, 3, 5, 2, 1, 0, 4], [12, 13, 16, 17], 0⟩ ::
   ⟨⟨(some 38), .fa 2 (.t 9), .none⟩, [], [9, 10, 11, 12, 13, 16, 17], 0⟩ ::
   ⟨⟨(some 39), .ld1 (.t 38), .none⟩, [8], [10, 11, 12, 13, 16, 17], 1⟩ ::
   ⟨⟨(some 40), .call 19 [(.t 39), (.c (.str [10]))], .none⟩, [9, 8], [11, 12, 13, 16, 17], 1⟩ ::
   ⟨⟨(some 41), .call 18 [(.t 40)], .none⟩, [10, 9, 8], [12, 13, 16, 17], 1⟩ ::
   Tryd.fn9_r12b
def Tryd.fn9_r12 : List DIns :=
   ⟨⟨(some 30), .fa 0 (.t 9), .none⟩, [], [1, 2, 3, 6, 7, 12, 13, 16, 17], 0⟩ ::
   ⟨⟨(some 31), .ld1 (.t 30), .none⟩, [0], [2, 3, 6, 7, 12, 13, 16, 17], 1⟩ ::
   ⟨⟨(some 32), .bin .add (.c (.str [61, 61, 32])) (.t 31), .none⟩, [1, 0], [3, 6, 7, 12, 13, 16, 17], 0⟩ ::
   ⟨⟨(some 33), .bin .add (.t 32) (.c (.str [32])), .none⟩, [2, 1, 0], [6, 7, 12, 13, 16, 17], 0⟩ ::
   ⟨⟨(some 34), .fa 1 (.t 9), .none⟩, [], [5, 6, 7, 12, 13, 16, 17], 0⟩ ::
   ⟨⟨(some 35), .ld1 (.t 34), .none⟩, [4], [6, 7, 12, 13, 16, 17], 1⟩ ::
   Tryd.fn9_r12a
def Tryd.fn9_r13 : List AIns :=
   [⟨(some 48), .bin .add (.t 26) (.c (.int .i64 1)), .none⟩,
      ⟨(some 26), .mov (.t 48), .none⟩]
def Tryd.fn9_r14 : List AIns :=
   [⟨(some 49), .call 20 [(.t 7)], .none⟩,
    ⟨(some 2), .mov (.t 49), .none⟩,
    ⟨(some 3), .mov (.c (.int .i64 0)), .none⟩]
def Tryd.fn9_l0 : ACode :=
 (.seq (.seq (.reg Tryd.fn9_r10)
     (.trim [7, 24, 25, 26, 27]))
    (.seq (.cond (.t 27)
      .skip
      (.exit 2))
    (.seq (.block 3
      (.seq (.seq (.reg Tryd.fn9_r11)
       (.trim [7, 9, 24, 25, 26]))
      (.seq (.regd Tryd.fn9_r12)
      (.trim [7, 24, 25, 26]))))
    (.seq (.reg Tryd.fn9_r13)
    (.trim [7, 24, 25, 26])))))
def Tryd.fn9_l1 : ACode :=
 (.seq (.seq (.reg Tryd.fn9_r2)
     (.trim [1, 11, 12, 13, 14]))
    (.seq (.cond (.t 14)
      .skip
      (.exit 0))
    (.seq (.block 1
      (.seq (.seq (.reg Tryd.fn9_r3)
       (.trim [1, 5, 11, 12, 13]))
      (.seq (.seq (.reg Tryd.fn9_r4)
       (.trim [1, 6, 11, 12, 13]))
      (.seq (.seq (.reg Tryd.fn9_r5)
       (.trim [1, 6, 11, 12, 13, 20]))
      (.cond (.t 20)
       (.seq (.seq (.reg Tryd.fn9_r6)
        (.trim [2, 3]))
       .ret)
       .skip)))))
    (.seq (.reg Tryd.fn9_r7)
    (.trim [1, 11, 12, 13])))))
def Tryd.fn9 : AFun :=
 ⟨50, [.tmp 2, .tmp 3],
 (.seq (.seq (.reg Tryd.fn9_r0)
  (.trim [1]))
 (.seq (.seq (.seq (.reg Tryd.fn9_r1)
   (.trim [1, 11, 12, 13]))
  (.block 0
   (.loop (some [1, 11, 12, 13])
    Tryd.fn9_l1)))
 (.seq (.seq (.reg Tryd.fn9_r8)
  (.trim [1, 7]))
 (.seq (.seq (.seq (.reg Tryd.fn9_r9)
   (.trim [7, 24, 25, 26]))
  (.block 2
   (.loop (some [7, 24, 25, 26])
    Tryd.fn9_l0)))
 (.seq (.seq (.reg Tryd.fn9_r14)
  (.trim [2, 3]))
 .ret))))), true⟩
/-! signalbench/signalbenchref57.Print -/
def Tryd.fn10_r0 : List AIns :=
   [⟨(some 1), .box 24 (.t 0), .none⟩,
    ⟨(some 2), .mov (.c (.str [])), .none⟩,
    ⟨(some 3), .mov (.c (.int .i64 0)), .none⟩]
def Tryd.fn10_r1 : List AIns :=
   [⟨(some 4), .mov (.c (.str [])), .none⟩]
def Tryd.fn10_r2 : List AIns :=
   [⟨(some 5), .mov (.c (.int .i64 0)), .none⟩]
def Tryd.fn10_r3 : List AIns :=
   [⟨(some 8), .mov (.t 5), .none⟩,
        ⟨(some 9), .fa 0 (.t 1), .none⟩,
        ⟨(some 10), .ld1 (.t 9), .none⟩,
        ⟨(some 11), .lenl (.t 10), .none⟩,
        ⟨(some 12), .bin .lss (.t 8) (.t 11), .none⟩]
def Tryd.fn10_r4 : List AIns :=
   [⟨(some 15), .fa 0 (.t 1), .none⟩,
         ⟨(some 16), .ld1 (.t 15), .none⟩,
         ⟨(some 17), .mov (.t 5), .none⟩,
         ⟨(some 18), .ia 3 (.t 16) (.t 17), .none⟩,
         ⟨(some 19), .ldn 3 (.t 18), .none⟩,
         ⟨(some 6), .alloc 38 [(.str []), (.str []), (.str [])], .none⟩,
         ⟨.none, .st 3 (.t 6) (.t 19), .none⟩]
def Tryd.fn10_r5 : List AIns :=
   [⟨(some 20), .ldn 3 (.t 6), .none⟩,
          ⟨(some 21), .call 21 [(.t 20)], .none⟩,
          ⟨(some 7), .mov (.t 21), .none⟩]
def Tryd.fn10_r6 : List AIns :=
   [⟨(some 22), .mov (.t 7), .none⟩,
          ⟨(some 23), .bin .neq (.t 22) (.c (.int .i64 0)), .none⟩]
def Tryd.fn10_r7 : List AIns :=
   [⟨(some 24), .mov (.t 7), .none⟩,
           ⟨(some 2), .mov (.c (.str [])), .none⟩,
           ⟨(some 3), .mov (.t 24), .none⟩]
def Tryd.fn10_r8c : List DIns :=
   ⟨⟨(some 43), .bin .add (.t 25) (.t 42), .none⟩, [0, 17, 14, 16, 13, 8, 12, 7, 4, 6, 3, 2, 1, 5, 11, 10, 9, 15], [19], 0⟩ ::
   ⟨⟨(some 4), .mov (.t 43), .none⟩, [18, 12, 0, 1, 2, 3, 4, 5, 6, 7, 8, 9, 10, 11, 13, 14, 15, 16, 17], [], 0⟩ ::
   []
def Tryd.fn10_r8b : List DIns :=
   ⟨⟨(some 37), .call 18 [(.t 36)], .none⟩, [11, 10, 9], [13, 14, 17, 18, 19], 1⟩ ::
   ⟨⟨(some 38), .bin .add (.t 33) (.t 37), .none⟩, [8, 12, 7, 4, 6, 3, 2, 1, 5, 11, 10, 9], [14, 17, 18, 19], 0⟩ ::
   ⟨⟨(some 39), .bin .add (.t 38) (.c (.str [10])), .none⟩, [13, 8, 12, 7, 4, 6, 3, 2, 1, 5, 11, 10, 9], [17, 18, 19], 0⟩ ::
   ⟨⟨(some 40), .fa 2 (.t 6), .none⟩, [], [16, 17, 18, 19], 0⟩ ::
   ⟨⟨(some 41), .ld1 (.t 40), .none⟩, [15], [17, 18, 19], 1⟩ ::
   ⟨⟨(some 42), .bin .add (.t 39) (.t 41), .none⟩, [14, 16, 13, 8, 12, 7, 4, 6, 3, 2, 1, 5, 11, 10, 9, 15], [18, 19], 0⟩ ::
   Tryd.fn10_r8c
def Tryd.fn10_r8a : List DIns :=
   ⟨⟨(some 31), .ld1 (.t 30), .none⟩, [5], [7, 8, 13, 14, 17, 18, 19], 1⟩ ::
   ⟨⟨(some 32), .bin .add (.t 29) (.t 31), .none⟩, [4, 6, 3, 2, 1, 5], [8, 13, 14, 17, 18, 19], 0⟩ ::
   ⟨⟨(some 33), .bin .add (.t 32) (.c (.str [32])), .none⟩, [7, 4, 6, 3, 2, 1, 5], [13, 14, 17, 18, 19], 0⟩ ::
   ⟨⟨(some 34), .fa 2 (.t 6), .none⟩, [], [10, 11, 12, 13, 14, 17, 18, 19], 0⟩ ::
   ⟨⟨(some 35), .ld1 (.t 34), .none⟩, [9], [11, 12, 13, 14, 17, 18, 19], 1⟩ ::
   ⟨⟨(some 36), .call 22 [(.t 35)], .none⟩, [10, 9], [12, 13, 14, 17, 18, 19], 1⟩ ::
   Tryd.fn10_r8b
def Tryd.fn10_r8 : List DIns :=
   ⟨⟨(some 25), .mov (.t 4), .none⟩, [], [18, 19], 0⟩ ::
   ⟨⟨(some 26), .fa 0 (.t 6), .none⟩, [], [2, 3, 4, 7, 8, 13, 14, 17, 18, 19], 0⟩ ::
   ⟨⟨(some 27), .ld1 (.t 26), .none⟩, [1], [3, 4, 7, 8, 13, 14, 17, 18, 19], 1⟩ ::
   ⟨⟨(some 28), .bin .add (.c (.str [61, 61, 32])) (.t 27), .none⟩, [2, 1], [4, 7, 8, 13, 14, 17, 18, 19], 0⟩ ::
   ⟨⟨(some 29), .bin .add (.t 28) (.c (.str [32])), .none⟩, [3, 2, 1], [7, 8, 13, 14, 17, 18, 19], 0⟩ ::
   ⟨⟨(some 30), .fa 1 (.t 6), .none⟩, [], [6, 7, 8, 13, 14, 17, 18, 19], 0⟩ ::
   Tryd.fn10_r8a
def Tryd.fn10_r9 : List AIns :=
   [⟨(some 13), .mov (.t 5), .none⟩,
      ⟨(some 14), .bin .add (.t 13) (.c (.int .i64 1)), .none⟩,
      ⟨(some 5), .mov (.t 14), .none⟩]
def Tryd.fn10_r10 : List AIns :=
   [⟨(some 44), .mov (.t 4), .none⟩,
    ⟨(some 2), .mov (.t 44), .none⟩,
    ⟨(some 3), .mov (.c (.int .i64 0)), .none⟩]
def Tryd.fn10_l0 : ACode :=
 (.seq (.seq (.seq (.reg Tryd.fn10_r3)
      (.trim [1, 4, 5, 12]))
     (.cond (.t 12)
      .skip
      (.exit 0)))
    (.seq (.block 1
      (.seq (.seq (.reg Tryd.fn10_r4)
       (.trim [1, 4, 5, 6]))
      (.seq (.seq (.seq (.reg Tryd.fn10_r5)
        (.trim [1, 4, 5, 6, 7]))
       (.seq (.seq (.reg Tryd.fn10_r6)
        (.trim [1, 4, 5, 6, 7, 23]))
       (.cond (.t 23)
        (.seq (.seq (.reg Tryd.fn10_r7)
         (.trim [2, 3]))
        .ret)
        .skip)))
      (.seq (.regd Tryd.fn10_r8)
      (.trim [1, 4, 5])))))
    (.seq (.reg Tryd.fn10_r9)
    (.trim [1, 4, 5]))))
def Tryd.fn10 : AFun :=
 ⟨45, [.tmp 2, .tmp 3],
 (.seq (.seq (.reg Tryd.fn10_r0)
  (.trim [1]))
 (.seq (.seq (.reg Tryd.fn10_r1)
  (.trim [1, 4]))
 (.seq (.seq (.seq (.reg Tryd.fn10_r2)
   (.trim [1, 4, 5]))
  (.block 0
   (.loop (some [1, 4, 5])
    Tryd.fn10_l0)))
 (.seq (.seq (.reg Tryd.fn10_r10)
  (.trim [2, 3]))
 .ret)))), true⟩
/-! signalbench/bench.Parse -/
def Tryd.fn11_r0 : List AIns :=
   [⟨(some 2), .alloc 24 [.nils], .none⟩,
    ⟨(some 3), .mov (.c (.int .i64 0)), .none⟩,
    ⟨(some 4), .mov (.c (.int .i64 0)), .none⟩]
def Tryd.fn11_r1 : List AIns :=
   [⟨(some 5), .alloc 24 [.nils], .none⟩]
def Tryd.fn11_r2 : List AIns :=
   [⟨(some 6), .mov (.c (.int .i64 1)), .none⟩]
def Tryd.fn11_r3 : List AIns :=
   [⟨(some 12), .mov (.t 0), .none⟩,
        ⟨(some 13), .bin .neq (.t 12) (.c (.str [])), .none⟩]
def Tryd.fn11_r4 : List AIns :=
   [⟨(some 15), .mov (.t 0), .none⟩,
        ⟨(some 16), .call 23 [(.t 15), (.c (.str [10]))], .none⟩,
        ⟨(some 14), .mov (.t 16), .none⟩,
        ⟨(some 17), .ext 0 (.t 14), .none⟩,
        ⟨(some 18), .ext 1 (.t 14), .none⟩,
        ⟨(some 19), .ext 2 (.t 14), .none⟩,
        ⟨(some 7), .mov (.t 17), .none⟩,
        ⟨(some 8), .mov (.t 18), .none⟩,
        ⟨(some 9), .mov (.t 19), .none⟩]
def Tryd.fn11_r5 : List AIns :=
   [⟨(some 20), .mov (.t 9), .none⟩,
         ⟨(some 21), .un .not (.t 20), .none⟩]
def Tryd.fn11_r6 : List AIns :=
   [⟨(some 22), .bld [.nils] [], .none⟩,
          ⟨(some 23), .mov (.t 6), .none⟩,
          ⟨.none, .st 1 (.t 2) (.t 22), .none⟩,
          ⟨(some 3), .mov (.t 23), .none⟩,
          ⟨(some 4), .mov (.c (.int .i64 4)), .none⟩]
def Tryd.fn11_r7 : List AIns :=
   [⟨(some 25), .mov (.t 7), .none⟩,
        ⟨(some 26), .call 24 [(.t 25)], .none⟩,
        ⟨(some 24), .mov (.t 26), .none⟩,
        ⟨(some 27), .ext 0 (.t 24), .none⟩,
        ⟨(some 28), .ext 1 (.t 24), .none⟩,
        ⟨(some 29), .ext 2 (.t 24), .none⟩,
        ⟨(some 10), .alloc 38 [(.str []), (.str []), (.str [])], .none⟩,
        ⟨.none, .st 3 (.t 10) (.t 27), .none⟩,
        ⟨(some 11), .mov (.t 28), .none⟩,
        ⟨(some 9), .mov (.t 29), .none⟩]
def Tryd.fn11_r8 : List AIns :=
   [⟨(some 30), .mov (.t 9), .none⟩,
         ⟨(some 31), .un .not (.t 30), .none⟩]
def Tryd.fn11_r9 : List AIns :=
   [⟨(some 32), .bld [.nils] [], .none⟩,
          ⟨(some 33), .mov (.t 6), .none⟩,
          ⟨.none, .st 1 (.t 2) (.t 32), .none⟩,
          ⟨(some 3), .mov (.t 33), .none⟩,
          ⟨(some 4), .mov (.c (.int .i64 4)), .none⟩]
def Tryd.fn11_r10 : List AIns :=
   [⟨(some 35), .mov (.t 8), .none⟩,
         ⟨(some 36), .mov (.t 11), .none⟩,
         ⟨(some 37), .call 25 [(.t 35), (.t 36)], .none⟩,
         ⟨(some 34), .mov (.t 37), .none⟩,
         ⟨(some 38), .ext 0 (.t 34), .none⟩,
         ⟨(some 39), .ext 1 (.t 34), .none⟩,
         ⟨(some 40), .ext 2 (.t 34), .none⟩,
         ⟨(some 41), .fa 2 (.t 10), .none⟩,
         ⟨.none, .st 1 (.t 41) (.t 38), .none⟩,
         ⟨(some 8), .mov (.t 39), .none⟩]
def Tryd.fn11_r11 : List AIns :=
   [⟨(some 9), .mov (.t 40), .none⟩]
def Tryd.fn11_r12 : List AIns :=
   [⟨(some 42), .mov (.t 9), .none⟩,
         ⟨(some 43), .un .not (.t 42), .none⟩]
def Tryd.fn11_r13 : List AIns :=
   [⟨(some 44), .bld [.nils] [], .none⟩,
          ⟨(some 45), .mov (.t 6), .none⟩,
          ⟨.none, .st 1 (.t 2) (.t 44), .none⟩,
          ⟨(some 3), .mov (.t 45), .none⟩,
          ⟨(some 4), .mov (.c (.int .i64 4)), .none⟩]
def Tryd.fn11_r14 : List AIns :=
   [⟨(some 46), .fa 0 (.t 5), .none⟩,
        ⟨(some 47), .ld1 (.t 46), .none⟩,
        ⟨(some 48), .ldn 3 (.t 10), .none⟩,
        ⟨(some 49), .bsl 38 3 1 [(.str []), (.str []), (.str [])] [(0, 3, (.t 48))], .none⟩,
        ⟨(some 50), .app 38 3 48 (.t 47) (.t 49), .none⟩,
        ⟨(some 51), .fa 0 (.t 5), .none⟩,
        ⟨.none, .st 1 (.t 51) (.t 50), .none⟩]
def Tryd.fn11_r15 : List AIns :=
   [⟨(some 52), .mov (.t 8), .none⟩,
        ⟨(some 0), .mov (.t 52), .none⟩]
def Tryd.fn11_r16 : List AIns :=
   [⟨(some 53), .mov (.t 6), .none⟩,
       ⟨(some 54), .mov (.t 11), .none⟩,
       ⟨(some 55), .bin .add (.t 54) (.c (.int .i64 1)), .none⟩,
       ⟨(some 56), .bin .add (.t 53) (.t 55), .none⟩,
       ⟨(some 6), .mov (.t 56), .none⟩]
def Tryd.fn11_r17 : List AIns :=
   [⟨(some 57), .ldn 1 (.t 5), .none⟩,
    ⟨.none, .st 1 (.t 2) (.t 57), .none⟩,
    ⟨(some 3), .mov (.c (.int .i64 0)), .none⟩,
    ⟨(some 4), .mov (.c (.int .i64 0)), .none⟩]
def Tryd.fn11_l0 : ACode :=
 (.seq (.seq (.seq (.reg Tryd.fn11_r3)
      (.trim [0, 2, 5, 6, 13]))
     (.cond (.t 13)
      .skip
      (.exit 0)))
    (.block 1
     (.seq (.seq (.reg Tryd.fn11_r4)
      (.trim [2, 5, 6, 7, 8, 9]))
     (.seq (.seq (.seq (.reg Tryd.fn11_r5)
       (.trim [2, 5, 6, 7, 8, 21]))
      (.cond (.t 21)
       (.seq (.seq (.reg Tryd.fn11_r6)
        (.trim [2, 3, 4]))
       .ret)
       .skip))
     (.seq (.seq (.reg Tryd.fn11_r7)
      (.trim [2, 5, 6, 8, 9, 10, 11]))
     (.seq (.seq (.seq (.reg Tryd.fn11_r8)
       (.trim [2, 5, 6, 8, 10, 11, 31]))
      (.cond (.t 31)
       (.seq (.seq (.reg Tryd.fn11_r9)
        (.trim [2, 3, 4]))
       .ret)
       .skip))
     (.seq (.seq (.seq (.reg Tryd.fn11_r10)
       (.trim [2, 5, 6, 8, 10, 11, 40]))
      (.seq (.reg Tryd.fn11_r11)
      (.trim [2, 5, 6, 8, 9, 10, 11])))
     (.seq (.seq (.seq (.reg Tryd.fn11_r12)
       (.trim [2, 5, 6, 8, 10, 11, 43]))
      (.cond (.t 43)
       (.seq (.seq (.reg Tryd.fn11_r13)
        (.trim [2, 3, 4]))
       .ret)
       .skip))
     (.seq (.seq (.reg Tryd.fn11_r14)
      (.trim [2, 5, 6, 8, 11]))
     (.seq (.seq (.reg Tryd.fn11_r15)
      (.trim [0, 2, 5, 6, 11]))
     (.seq (.reg Tryd.fn11_r16)
     (.trim [0, 2, 5, 6]))))))))))))
def Tryd.fn11 : AFun :=
 ⟨58, [.celln 2 1, .tmp 3, .tmp 4],
 (.seq (.seq (.reg Tryd.fn11_r0)
  (.trim [0, 2]))
 (.seq (.seq (.reg Tryd.fn11_r1)
  (.trim [0, 2, 5]))
 (.seq (.seq (.reg Tryd.fn11_r2)
  (.trim [0, 2, 5, 6]))
 (.seq (.block 0
   (.loop (some [0, 2, 5, 6])
    Tryd.fn11_l0))
 (.seq (.seq (.reg Tryd.fn11_r17)
  (.trim [2, 3, 4]))
 .ret))))), false⟩
/-! signalbench/signalbenchref57.Parse -/
def Tryd.fn12_r0 : List AIns :=
   [⟨(some 2), .alloc 24 [.nils], .none⟩,
    ⟨(some 3), .mov (.c (.int .i64 0)), .none⟩,
    ⟨(some 4), .mov (.c (.int .i64 0)), .none⟩]
def Tryd.fn12_r1 : List AIns :=
   [⟨(some 5), .alloc 24 [.nils], .none⟩]
def Tryd.fn12_r2 : List AIns :=
   [⟨(some 6), .mov (.c (.int .i64 1)), .none⟩]
def Tryd.fn12_r3 : List AIns :=
   [⟨(some 12), .mov (.t 0), .none⟩,
        ⟨(some 13), .bin .neq (.t 12) (.c (.str [])), .none⟩]
def Tryd.fn12_r4 : List AIns :=
   [⟨(some 15), .mov (.t 0), .none⟩,
        ⟨(some 16), .call 26 [(.t 15), (.c (.int .i64 1))], .none⟩,
        ⟨(some 14), .mov (.t 16), .none⟩,
        ⟨(some 17), .ext 0 (.t 14), .none⟩,
        ⟨(some 18), .ext 1 (.t 14), .none⟩,
        ⟨(some 7), .mov (.t 17), .none⟩,
        ⟨(some 8), .mov (.t 18), .none⟩]
def Tryd.fn12_r5 : List AIns :=
   [⟨(some 19), .mov (.t 8), .none⟩,
         ⟨(some 20), .un .not (.t 19), .none⟩]
def Tryd.fn12_r6 : List AIns :=
   [⟨(some 21), .bld [.nils] [], .none⟩,
          ⟨(some 22), .mov (.t 6), .none⟩,
          ⟨.none, .st 1 (.t 2) (.t 21), .none⟩,
          ⟨(some 3), .mov (.t 22), .none⟩,
          ⟨(some 4), .mov (.c (.int .i64 4)), .none⟩]
def Tryd.fn12_r7 : List AIns :=
   [⟨(some 24), .mov (.t 7), .none⟩,
         ⟨(some 25), .mov (.t 7), .none⟩,
         ⟨(some 26), .lens (.t 25), .none⟩,
         ⟨(some 27), .bin .sub (.t 26) (.c (.int .i64 1)), .none⟩,
         ⟨(some 28), .sub (.t 24) .none (some (.t 27)), .none⟩,
         ⟨(some 29), .mov (.t 0), .none⟩,
         ⟨(some 30), .lens (.t 29), .none⟩,
         ⟨(some 31), .call 27 [(.t 28), (.t 30)], .none⟩,
         ⟨(some 23), .mov (.t 31), .none⟩,
         ⟨(some 32), .ext 0 (.t 23), .none⟩]
def Tryd.fn12_r8 : List AIns :=
   [⟨(some 33), .ext 1 (.t 23), .none⟩,
        ⟨(some 34), .ext 2 (.t 23), .none⟩,
        ⟨(some 9), .alloc 38 [(.str []), (.str []), (.str [])], .none⟩,
        ⟨.none, .st 3 (.t 9) (.t 32), .none⟩,
        ⟨(some 10), .mov (.t 33), .none⟩,
        ⟨(some 8), .mov (.t 34), .none⟩]
def Tryd.fn12_r9 : List AIns :=
   [⟨(some 35), .mov (.t 8), .none⟩,
         ⟨(some 36), .un .not (.t 35), .none⟩]
def Tryd.fn12_r10 : List AIns :=
   [⟨(some 37), .bld [.nils] [], .none⟩,
          ⟨(some 38), .mov (.t 6), .none⟩,
          ⟨.none, .st 1 (.t 2) (.t 37), .none⟩,
          ⟨(some 3), .mov (.t 38), .none⟩,
          ⟨(some 4), .mov (.c (.int .i64 4)), .none⟩]
def Tryd.fn12_r11 : List AIns :=
   [⟨(some 39), .mov (.t 0), .none⟩,
        ⟨(some 40), .mov (.t 7), .none⟩,
        ⟨(some 41), .lens (.t 40), .none⟩,
        ⟨(some 42), .sub (.t 39) (some (.t 41)) .none, .none⟩,
        ⟨(some 0), .mov (.t 42), .none⟩]
def Tryd.fn12_r12 : List AIns :=
   [⟨(some 44), .mov (.t 0), .none⟩,
        ⟨(some 45), .mov (.t 10), .none⟩,
        ⟨(some 46), .call 26 [(.t 44), (.t 45)], .none⟩,
        ⟨(some 43), .mov (.t 46), .none⟩,
        ⟨(some 47), .ext 0 (.t 43), .none⟩,
        ⟨(some 48), .ext 1 (.t 43), .none⟩,
        ⟨(some 11), .mov (.t 47), .none⟩,
        ⟨(some 8), .mov (.t 48), .none⟩]
def Tryd.fn12_r13 : List AIns :=
   [⟨(some 49), .mov (.t 8), .none⟩,
         ⟨(some 50), .un .not (.t 49), .none⟩,
         ⟨(some 51), .mov (.t 50), .none⟩,
         ⟨(some 52), .mov (.t 11), (some (51, false))⟩,
         ⟨(some 53), .lens (.t 52), (some (51, false))⟩,
         ⟨(some 54), .bin .gtr (.t 53) (.c (.int .i64 1048576)), (some (51, false))⟩,
         ⟨(some 55), .pick (.t 51) (.c (.bool true)) (.t 54), .none⟩]
def Tryd.fn12_r14 : List AIns :=
   [⟨(some 56), .bld [.nils] [], .none⟩,
          ⟨(some 57), .mov (.t 6), .none⟩,
          ⟨.none, .st 1 (.t 2) (.t 56), .none⟩,
          ⟨(some 3), .mov (.t 57), .none⟩,
          ⟨(some 4), .mov (.c (.int .i64 4)), .none⟩]
def Tryd.fn12_r15 : List AIns :=
   [⟨(some 58), .mov (.t 11), .none⟩,
        ⟨(some 59), .fa 2 (.t 9), .none⟩,
        ⟨.none, .st 1 (.t 59) (.t 58), .none⟩]
def Tryd.fn12_r16 : List AIns :=
   [⟨(some 60), .fa 0 (.t 5), .none⟩,
        ⟨(some 61), .ld1 (.t 60), .none⟩,
        ⟨(some 62), .ldn 3 (.t 9), .none⟩,
        ⟨(some 63), .bsl 38 3 1 [(.str []), (.str []), (.str [])] [(0, 3, (.t 62))], .none⟩,
        ⟨(some 64), .app 38 3 48 (.t 61) (.t 63), .none⟩,
        ⟨(some 65), .fa 0 (.t 5), .none⟩,
        ⟨.none, .st 1 (.t 65) (.t 64), .none⟩]
def Tryd.fn12_r17 : List AIns :=
   [⟨(some 66), .mov (.t 0), .none⟩,
        ⟨(some 67), .mov (.t 11), .none⟩,
        ⟨(some 68), .lens (.t 67), .none⟩,
        ⟨(some 69), .sub (.t 66) (some (.t 68)) .none, .none⟩,
        ⟨(some 0), .mov (.t 69), .none⟩]
def Tryd.fn12_r18 : List AIns :=
   [⟨(some 70), .mov (.t 6), .none⟩,
       ⟨(some 71), .mov (.t 10), .none⟩,
       ⟨(some 72), .bin .add (.t 71) (.c (.int .i64 1)), .none⟩,
       ⟨(some 73), .bin .add (.t 70) (.t 72), .none⟩,
       ⟨(some 6), .mov (.t 73), .none⟩]
def Tryd.fn12_r19 : List AIns :=
   [⟨(some 74), .ldn 1 (.t 5), .none⟩,
    ⟨.none, .st 1 (.t 2) (.t 74), .none⟩,
    ⟨(some 3), .mov (.c (.int .i64 0)), .none⟩,
    ⟨(some 4), .mov (.c (.int .i64 0)), .none⟩]
def Tryd.fn12_l0 : ACode :=
 (.seq (.seq (.seq (.reg Tryd.fn12_r3)
      (.trim [0, 2, 5, 6, 13]))
     (.cond (.t 13)
      .skip
      (.exit 0)))
    (.block 1
     (.seq (.seq (.reg Tryd.fn12_r4)
      (.trim [0, 2, 5, 6, 7, 8]))
     (.seq (.seq (.seq (.reg Tryd.fn12_r5)
       (.trim [0, 2, 5, 6, 7, 20]))
      (.cond (.t 20)
       (.seq (.seq (.reg Tryd.fn12_r6)
        (.trim [2, 3, 4]))
       .ret)
       .skip))
     (.seq (.seq (.seq (.reg Tryd.fn12_r7)
       (.trim [0, 2, 5, 6, 7, 23, 32]))
      (.seq (.reg Tryd.fn12_r8)
      (.trim [0, 2, 5, 6, 7, 8, 9, 10])))
     (.seq (.seq (.seq (.reg Tryd.fn12_r9)
       (.trim [0, 2, 5, 6, 7, 9, 10, 36]))
      (.cond (.t 36)
       (.seq (.seq (.reg Tryd.fn12_r10)
        (.trim [2, 3, 4]))
       .ret)
       .skip))
     (.seq (.seq (.reg Tryd.fn12_r11)
      (.trim [0, 2, 5, 6, 9, 10]))
     (.seq (.seq (.reg Tryd.fn12_r12)
      (.trim [0, 2, 5, 6, 8, 9, 10, 11]))
     (.seq (.seq (.seq (.reg Tryd.fn12_r13)
       (.trim [0, 2, 5, 6, 9, 10, 11, 55]))
      (.cond (.t 55)
       (.seq (.seq (.reg Tryd.fn12_r14)
        (.trim [2, 3, 4]))
       .ret)
       .skip))
     (.seq (.seq (.reg Tryd.fn12_r15)
      (.trim [0, 2, 5, 6, 9, 10, 11]))
     (.seq (.seq (.reg Tryd.fn12_r16)
      (.trim [0, 2, 5, 6, 10, 11]))
     (.seq (.seq (.reg Tryd.fn12_r17)
      (.trim [0, 2, 5, 6, 10]))
     (.seq (.reg Tryd.fn12_r18)
     (.trim [0, 2, 5, 6]))))))))))))))
def Tryd.fn12 : AFun :=
 ⟨75, [.celln 2 1, .tmp 3, .tmp 4],
 (.seq (.seq (.reg Tryd.fn12_r0)
  (.trim [0, 2]))
 (.seq (.seq (.reg Tryd.fn12_r1)
  (.trim [0, 2, 5]))
 (.seq (.seq (.reg Tryd.fn12_r2)
  (.trim [0, 2, 5, 6]))
 (.seq (.block 0
   (.loop (some [0, 2, 5, 6])
    Tryd.fn12_l0))
 (.seq (.seq (.reg Tryd.fn12_r19)
  (.trim [2, 3, 4]))
 .ret))))), false⟩
/-! signalbench/signalbenchlaw57.same -/
def Tryd.fn13_r0 : List AIns :=
   [⟨(some 2), .box 24 (.t 0), .none⟩,
    ⟨(some 3), .box 24 (.t 1), .none⟩,
    ⟨(some 4), .mov (.c (.bool false)), .none⟩]
def Tryd.fn13_r1 : List AIns :=
   [⟨(some 6), .fa 0 (.t 2), .none⟩,
     ⟨(some 7), .ld1 (.t 6), .none⟩,
     ⟨(some 8), .lenl (.t 7), .none⟩,
     ⟨(some 9), .fa 0 (.t 3), .none⟩,
     ⟨(some 10), .ld1 (.t 9), .none⟩,
     ⟨(some 11), .lenl (.t 10), .none⟩,
     ⟨(some 12), .bin .neq (.t 8) (.t 11), .none⟩]
def Tryd.fn13_r2 : List AIns :=
   [⟨(some 4), .mov (.c (.bool false)), .none⟩]
def Tryd.fn13_r3 : List AIns :=
   [⟨(some 5), .mov (.c (.int .i64 0)), .none⟩]
def Tryd.fn13_r4 : List AIns :=
   [⟨(some 13), .mov (.t 5), .none⟩,
        ⟨(some 14), .fa 0 (.t 2), .none⟩,
        ⟨(some 15), .ld1 (.t 14), .none⟩,
        ⟨(some 16), .lenl (.t 15), .none⟩,
        ⟨(some 17), .bin .lss (.t 13) (.t 16), .none⟩]
def Tryd.fn13_r5a : List DIns :=
   ⟨⟨(some 26), .ld1 (.t 25), .none⟩, [5], [8, 9, 10], 1⟩ ::
   ⟨⟨(some 27), .mov (.t 5), .none⟩, [], [8, 9, 10], 0⟩ ::
   ⟨⟨(some 28), .ia 3 (.t 26) (.t 27), .none⟩, [6, 7, 5], [9, 10], 0⟩ ::
   ⟨⟨(some 29), .ldn 3 (.t 28), .none⟩, [8, 6, 7, 5], [10], 1⟩ ::
   ⟨⟨(some 30), .eqv true false (.st [(0, .none, .str), (1, .none, .str), (2, .none, .str)]) (.t 24) (.t 29), .none⟩, [4, 9, 3, 1, 2, 0, 8, 6, 7, 5], [], 0⟩ ::
   []
def Tryd.fn13_r5 : List DIns :=
   ⟨⟨(some 20), .fa 0 (.t 2), .none⟩, [], [1, 3, 4, 10], 0⟩ ::
   ⟨⟨(some 21), .ld1 (.t 20), .none⟩, [0], [3, 4, 10], 1⟩ ::
   ⟨⟨(some 22), .mov (.t 5), .none⟩, [], [3, 4, 10], 0⟩ ::
   ⟨⟨(some 23), .ia 3 (.t 21) (.t 22), .none⟩, [1, 2, 0], [4, 10], 0⟩ ::
   ⟨⟨(some 24), .ldn 3 (.t 23), .none⟩, [3, 1, 2, 0], [10], 1⟩ ::
   ⟨⟨(some 25), .fa 0 (.t 3), .none⟩, [], [6, 8, 9, 10], 0⟩ ::
   Tryd.fn13_r5a
def Tryd.fn13_r6 : List AIns :=
   [⟨(some 4), .mov (.c (.bool false)), .none⟩]
def Tryd.fn13_r7 : List AIns :=
   [⟨(some 18), .mov (.t 5), .none⟩,
      ⟨(some 19), .bin .add (.t 18) (.c (.int .i64 1)), .none⟩,
      ⟨(some 5), .mov (.t 19), .none⟩]
def Tryd.fn13_r8 : List AIns :=
   [⟨(some 4), .mov (.c (.bool true)), .none⟩]
def Tryd.fn13_l0 : ACode :=
 (.seq (.seq (.seq (.reg Tryd.fn13_r4)
      (.trim [2, 3, 5, 17]))
     (.cond (.t 17)
      .skip
      (.exit 0)))
    (.seq (.block 1
      (.seq (.seq (.regd Tryd.fn13_r5)
       (.trim [2, 3, 5, 30]))
      (.cond (.t 30)
       (.seq (.seq (.reg Tryd.fn13_r6)
        (.trim [4]))
       .ret)
       .skip)))
    (.seq (.reg Tryd.fn13_r7)
    (.trim [2, 3, 5]))))
def Tryd.fn13 : AFun :=
 ⟨31, [.tmp 4],
 (.seq (.seq (.reg Tryd.fn13_r0)
  (.trim [2, 3]))
 (.seq (.seq (.seq (.reg Tryd.fn13_r1)
   (.trim [2, 3, 12]))
  (.cond (.t 12)
   (.seq (.seq (.reg Tryd.fn13_r2)
    (.trim [4]))
   .ret)
   .skip))
 (.seq (.seq (.seq (.reg Tryd.fn13_r3)
   (.trim [2, 3, 5]))
  (.block 0
   (.loop (some [2, 3, 5])
    Tryd.fn13_l0)))
 (.seq (.seq (.reg Tryd.fn13_r8)
  (.trim [4]))
 .ret)))), true⟩
/-! signalbench/bench.Find -/
def Tryd.fn14_r0 : List AIns :=
   [⟨(some 3), .box 24 (.t 0), .none⟩,
    ⟨(some 6), .mov (.c (.int .i64 0)), .none⟩]
def Tryd.fn14_r1 : List AIns :=
   [⟨(some 9), .fa 0 (.t 3), .none⟩,
     ⟨(some 10), .ld1 (.t 9), .none⟩,
     ⟨(some 11), .lenl (.t 10), .none⟩,
     ⟨(some 12), .mov (.c (.int .i64 0)), .none⟩]
def Tryd.fn14_r2 : List AIns :=
   [⟨(some 13), .bin .lss (.t 12) (.t 11), .none⟩]
def Tryd.fn14_r3 : List AIns :=
   [⟨(some 14), .mov (.t 12), .none⟩,
         ⟨(some 15), .ia 3 (.t 10) (.t 12), .none⟩,
         ⟨(some 16), .ldn 3 (.t 15), .none⟩,
         ⟨(some 8), .alloc 38 [(.str []), (.str []), (.str [])], .none⟩,
         ⟨(some 7), .mov (.t 14), .none⟩,
         ⟨.none, .st 3 (.t 8) (.t 16), .none⟩]
def Tryd.fn14_r4 : List AIns :=
   [⟨(some 17), .fa 0 (.t 8), .none⟩,
         ⟨(some 18), .ld1 (.t 17), .none⟩,
         ⟨(some 19), .mov (.t 1), .none⟩,
         ⟨(some 20), .bin .eql (.t 18) (.t 19), .none⟩,
         ⟨(some 21), .mov (.t 20), .none⟩,
         ⟨(some 22), .fa 1 (.t 8), (some (21, true))⟩,
         ⟨(some 23), .ld1 (.t 22), (some (21, true))⟩,
         ⟨(some 24), .mov (.t 2), (some (21, true))⟩,
         ⟨(some 25), .bin .eql (.t 23) (.t 24), (some (21, true))⟩,
         ⟨(some 26), .pick (.t 21) (.t 25) (.c (.bool false)), .none⟩]
def Tryd.fn14_r5 : List AIns :=
   [⟨(some 27), .mov (.t 7), .none⟩,
          ⟨(some 6), .mov (.t 27), .none⟩]
def Tryd.fn14_r6 : List AIns :=
   [⟨(some 28), .bin .add (.t 12) (.c (.int .i64 1)), .none⟩,
      ⟨(some 12), .mov (.t 28), .none⟩]
def Tryd.fn14_r7 : List AIns :=
   [⟨(some 6), .mov (.c (.int .i64 (-1))), .none⟩]
def Tryd.fn14_l0 : ACode :=
 (.seq (.seq (.reg Tryd.fn14_r2)
     (.trim [1, 2, 10, 11, 12, 13]))
    (.seq (.cond (.t 13)
      .skip
      (.exit 0))
    (.seq (.block 1
      (.seq (.seq (.reg Tryd.fn14_r3)
       (.trim [1, 2, 7, 8, 10, 11, 12]))
      (.seq (.seq (.reg Tryd.fn14_r4)
       (.trim [1, 2, 7, 10, 11, 12, 26]))
      (.cond (.t 26)
       (.seq (.seq (.reg Tryd.fn14_r5)
        (.trim [6]))
       .ret)
       .skip))))
    (.seq (.reg Tryd.fn14_r6)
    (.trim [1, 2, 10, 11, 12])))))
def Tryd.fn14 : AFun :=
 ⟨29, [.tmp 6],
 (.seq (.seq (.reg Tryd.fn14_r0)
  (.trim [1, 2, 3]))
 (.seq (.seq (.seq (.reg Tryd.fn14_r1)
   (.trim [1, 2, 10, 11, 12]))
  (.block 0
   (.loop (some [1, 2, 10, 11, 12])
    Tryd.fn14_l0)))
 (.seq (.seq (.reg Tryd.fn14_r7)
  (.trim [6]))
 .ret))), true⟩
/-! signalbench/signalbenchref57.Find -/
def Tryd.fn15_r0 : List AIns :=
   [⟨(some 3), .box 24 (.t 0), .none⟩,
    ⟨(some 6), .mov (.c (.int .i64 0)), .none⟩]
def Tryd.fn15_r1 : List AIns :=
   [⟨(some 7), .mov (.c (.int .i64 0)), .none⟩]
def Tryd.fn15_r2 : List AIns :=
   [⟨(some 8), .mov (.t 7), .none⟩,
        ⟨(some 9), .fa 0 (.t 3), .none⟩,
        ⟨(some 10), .ld1 (.t 9), .none⟩,
        ⟨(some 11), .lenl (.t 10), .none⟩,
        ⟨(some 12), .bin .lss (.t 8) (.t 11), .none⟩]
def Tryd.fn15_r3 : List AIns :=
   [⟨(some 15), .fa 0 (.t 3), .none⟩,
          ⟨(some 16), .ld1 (.t 15), .none⟩,
          ⟨(some 17), .mov (.t 7), .none⟩,
          ⟨(some 18), .ia 3 (.t 16) (.t 17), .none⟩,
          ⟨(some 19), .fa 0 (.t 18), .none⟩,
          ⟨(some 20), .ld1 (.t 19), .none⟩,
          ⟨(some 21), .mov (.t 1), .none⟩,
          ⟨(some 22), .bin .eql (.t 20) (.t 21), .none⟩,
          ⟨(some 23), .mov (.t 22), .none⟩,
          ⟨(some 24), .fa 0 (.t 3), (some (23, true))⟩]
def Tryd.fn15_r4 : List AIns :=
   [⟨(some 25), .ld1 (.t 24), (some (23, true))⟩,
         ⟨(some 26), .mov (.t 7), (some (23, true))⟩,
         ⟨(some 27), .ia 3 (.t 25) (.t 26), (some (23, true))⟩,
         ⟨(some 28), .fa 1 (.t 27), (some (23, true))⟩,
         ⟨(some 29), .ld1 (.t 28), (some (23, true))⟩,
         ⟨(some 30), .mov (.t 2), (some (23, true))⟩,
         ⟨(some 31), .bin .eql (.t 29) (.t 30), (some (23, true))⟩,
         ⟨(some 32), .pick (.t 23) (.t 31) (.c (.bool false)), .none⟩]
def Tryd.fn15_r5 : List AIns :=
   [⟨(some 33), .mov (.t 7), .none⟩,
          ⟨(some 6), .mov (.t 33), .none⟩]
def Tryd.fn15_r6 : List AIns :=
   [⟨(some 13), .mov (.t 7), .none⟩,
      ⟨(some 14), .bin .add (.t 13) (.c (.int .i64 1)), .none⟩,
      ⟨(some 7), .mov (.t 14), .none⟩]
def Tryd.fn15_r7 : List AIns :=
   [⟨(some 6), .mov (.c (.int .i64 (-1))), .none⟩]
def Tryd.fn15_l0 : ACode :=
 (.seq (.seq (.seq (.reg Tryd.fn15_r2)
      (.trim [1, 2, 3, 7, 12]))
     (.cond (.t 12)
      .skip
      (.exit 0)))
    (.seq (.block 1
      (.seq (.seq (.seq (.reg Tryd.fn15_r3)
        (.trim [1, 2, 3, 7, 23, 24]))
       (.seq (.reg Tryd.fn15_r4)
       (.trim [1, 2, 3, 7, 32])))
      (.cond (.t 32)
       (.seq (.seq (.reg Tryd.fn15_r5)
        (.trim [6]))
       .ret)
       .skip)))
    (.seq (.reg Tryd.fn15_r6)
    (.trim [1, 2, 3, 7]))))
def Tryd.fn15 : AFun :=
 ⟨34, [.tmp 6],
 (.seq (.seq (.reg Tryd.fn15_r0)
  (.trim [1, 2, 3]))
 (.seq (.seq (.seq (.reg Tryd.fn15_r1)
   (.trim [1, 2, 3, 7]))
  (.block 0
   (.loop (some [1, 2, 3, 7])
    Tryd.fn15_l0)))
 (.seq (.seq (.reg Tryd.fn15_r7)
  (.trim [6]))
 .ret))), true⟩
/-! signalbench/bench.form -/
def Tryd.fn16_r0 : List AIns :=
   [⟨(some 1), .box 38 (.t 0), .none⟩,
    ⟨(some 2), .mov (.c (.int .i64 0)), .none⟩]
def Tryd.fn16_r1 : List AIns :=
   [⟨(some 4), .fa 0 (.t 1), .none⟩,
      ⟨(some 5), .ld1 (.t 4), .none⟩,
      ⟨(some 6), .call 28 [(.t 5)], .none⟩,
      ⟨(some 7), .un .not (.t 6), .none⟩,
      ⟨(some 3), .mov (.t 7), .none⟩]
def Tryd.fn16_r2 : List AIns :=
   [⟨(some 2), .mov (.c (.int .i64 1)), .none⟩]
def Tryd.fn16_r3 : List AIns :=
   [⟨(some 9), .fa 1 (.t 1), .none⟩,
        ⟨(some 10), .ld1 (.t 9), .none⟩,
        ⟨(some 11), .call 29 [(.t 10)], .none⟩,
        ⟨(some 12), .un .not (.t 11), .none⟩,
        ⟨(some 8), .mov (.t 12), .none⟩]
def Tryd.fn16_r4 : List AIns :=
   [⟨(some 13), .fa 2 (.t 1), .none⟩,
        ⟨(some 14), .ld1 (.t 13), .none⟩,
        ⟨(some 15), .bin .neq (.t 14) (.c (.str [])), .none⟩,
        ⟨(some 16), .mov (.t 15), .none⟩,
        ⟨(some 17), .fa 2 (.t 1), (some (16, true))⟩,
        ⟨(some 18), .ld1 (.t 17), (some (16, true))⟩,
        ⟨(some 19), .call 30 [(.t 18), (.c (.str [10]))], (some (16, true))⟩,
        ⟨(some 20), .un .not (.t 19), (some (16, true))⟩,
        ⟨(some 21), .pick (.t 16) (.t 20) (.c (.bool false)), .none⟩,
        ⟨(some 8), .mov (.t 21), .none⟩]
def Tryd.fn16_r5 : List AIns :=
   [⟨(some 2), .mov (.c (.int .i64 4)), .none⟩]
def Tryd.fn16_r6 : List AIns :=
   [⟨(some 23), .fa 2 (.t 1), .none⟩,
        ⟨(some 24), .ld1 (.t 23), .none⟩,
        ⟨(some 25), .lens (.t 24), .none⟩,
        ⟨(some 26), .bin .gtr (.t 25) (.c (.int .i64 1048576)), .none⟩,
        ⟨(some 22), .mov (.t 26), .none⟩]
def Tryd.fn16_r7 : List AIns :=
   [⟨(some 2), .mov (.c (.int .i64 6)), .none⟩]
def Tryd.fn16_r8 : List AIns :=
   [⟨(some 2), .mov (.c (.int .i64 0)), .none⟩]
def Tryd.fn16 : AFun :=
 ⟨27, [.tmp 2],
 (.seq (.seq (.reg Tryd.fn16_r0)
  (.trim [1]))
 (.seq (.block 0
   (.seq (.seq (.reg Tryd.fn16_r1)
    (.trim [1, 3]))
   (.cond (.t 3)
    (.seq (.seq (.reg Tryd.fn16_r2)
     (.trim [2]))
    .ret)
    (.seq (.seq (.seq (.reg Tryd.fn16_r3)
      (.trim [1, 8]))
     (.cond (.t 8)
      .skip
      (.seq (.reg Tryd.fn16_r4)
      (.trim [1, 8]))))
    (.cond (.t 8)
     (.seq (.seq (.reg Tryd.fn16_r5)
      (.trim [2]))
     .ret)
     (.seq (.seq (.reg Tryd.fn16_r6)
      (.trim [22]))
     (.cond (.t 22)
      (.seq (.seq (.reg Tryd.fn16_r7)
       (.trim [2]))
      .ret)
      .skip)))))))
 (.seq (.seq (.reg Tryd.fn16_r8)
  (.trim [2]))
 .ret))), true⟩
/-! (*strings.Builder).WriteString -/
def Tryd.fn17_r0 : List AIns :=
   [⟨(some 4), .mov (.c (.int .i64 0)), .none⟩,
    ⟨(some 5), .mov (.c .nili), .none⟩]
def Tryd.fn17_r1 : List AIns :=
   [⟨(some 6), .mov (.t 0), .none⟩,
    ⟨(some 7), .call 31 [(.t 6)], .none⟩]
def Tryd.fn17_r2 : List AIns :=
   [⟨(some 8), .mov (.t 0), .none⟩,
    ⟨(some 9), .mov (.t 0), .none⟩,
    ⟨(some 10), .nlc (.t 9), .none⟩,
    ⟨(some 11), .fa 1 (.t 10), .none⟩,
    ⟨(some 12), .ld1 (.t 11), .none⟩,
    ⟨(some 13), .mov (.t 1), .none⟩,
    ⟨(some 14), .app 5 1 1 (.t 12) (.t 13), .none⟩,
    ⟨(some 15), .nlc (.t 8), .none⟩,
    ⟨(some 16), .fa 1 (.t 15), .none⟩,
    ⟨.none, .st 1 (.t 16) (.t 14), .none⟩]
def Tryd.fn17_r3 : List AIns :=
   [⟨(some 17), .mov (.t 1), .none⟩,
    ⟨(some 18), .lens (.t 17), .none⟩,
    ⟨(some 4), .mov (.t 18), .none⟩,
    ⟨(some 5), .mov (.c .nili), .none⟩]
def Tryd.fn17 : AFun :=
 ⟨19, [.tmp 4, .tmp 5],
 (.seq (.seq (.reg Tryd.fn17_r0)
  (.trim [0, 1]))
 (.seq (.seq (.reg Tryd.fn17_r1)
  (.trim [0, 1]))
 (.seq (.seq (.reg Tryd.fn17_r2)
  (.trim [1]))
 (.seq (.seq (.reg Tryd.fn17_r3)
  (.trim [4, 5]))
 .ret)))), false⟩
/-! (*strings.Builder).String -/
def Tryd.fn20_r0 : List AIns :=
   [⟨(some 2), .mov (.c (.str [])), .none⟩]
def Tryd.fn20_r1a : List DIns :=
   ⟨⟨(some 9), .nlc (.t 8), .none⟩, [5], [7, 8, 9, 10, 11], 0⟩ ::
   ⟨⟨(some 10), .fa 1 (.t 9), .none⟩, [6, 5], [8, 9, 10, 11], 0⟩ ::
   ⟨⟨(some 11), .ld1 (.t 10), .none⟩, [7, 6, 5], [9, 10, 11], 1⟩ ::
   ⟨⟨(some 12), .lenl (.t 11), .none⟩, [8, 7, 6, 5], [10, 11], 0⟩ ::
   ⟨⟨(some 13), .ustr 5 (.t 7) (.t 12), .none⟩, [4, 9, 3, 2, 1, 0, 8, 7, 6, 5], [11], 2⟩ ::
   ⟨⟨(some 2), .mov (.t 13), .none⟩, [10, 0, 1, 2, 3, 4, 5, 6, 7, 8, 9], [], 0⟩ ::
   []
def Tryd.fn20_r1 : List DIns :=
   ⟨⟨(some 3), .mov (.t 0), .none⟩, [], [1, 2, 3, 4, 10, 11], 0⟩ ::
   ⟨⟨(some 4), .nlc (.t 3), .none⟩, [0], [2, 3, 4, 10, 11], 0⟩ ::
   ⟨⟨(some 5), .fa 1 (.t 4), .none⟩, [1, 0], [3, 4, 10, 11], 0⟩ ::
   ⟨⟨(some 6), .ld1 (.t 5), .none⟩, [2, 1, 0], [4, 10, 11], 1⟩ ::
   ⟨⟨(some 7), .usd (.t 6), .none⟩, [3, 2, 1, 0], [10, 11], 0⟩ ::
   ⟨⟨(some 8), .mov (.t 0), .none⟩, [], [6, 7, 8, 9, 10, 11], 0⟩ ::
   Tryd.fn20_r1a
def Tryd.fn20 : AFun :=
 ⟨14, [.tmp 2],
 (.seq (.seq (.reg Tryd.fn20_r0)
  (.trim [0]))
 (.seq (.seq (.regd Tryd.fn20_r1)
  (.trim [2]))
 .ret)), false⟩
/-! signalbench/signalbenchref57.form -/
def Tryd.fn21_r0 : List AIns :=
   [⟨(some 1), .box 38 (.t 0), .none⟩,
    ⟨(some 2), .mov (.c (.int .i64 0)), .none⟩]
def Tryd.fn21_r1 : List AIns :=
   [⟨(some 3), .fa 0 (.t 1), .none⟩,
     ⟨(some 4), .ld1 (.t 3), .none⟩,
     ⟨(some 5), .call 36 [(.t 4)], .none⟩,
     ⟨(some 6), .un .not (.t 5), .none⟩]
def Tryd.fn21_r2 : List AIns :=
   [⟨(some 2), .mov (.c (.int .i64 1)), .none⟩]
def Tryd.fn21_r3 : List AIns :=
   [⟨(some 7), .fa 1 (.t 1), .none⟩,
     ⟨(some 8), .ld1 (.t 7), .none⟩,
     ⟨(some 9), .call 37 [(.t 8)], .none⟩,
     ⟨(some 10), .un .not (.t 9), .none⟩]
def Tryd.fn21_r4 : List AIns :=
   [⟨(some 2), .mov (.c (.int .i64 4)), .none⟩]
def Tryd.fn21_r5 : List AIns :=
   [⟨(some 11), .fa 2 (.t 1), .none⟩,
      ⟨(some 12), .ld1 (.t 11), .none⟩,
      ⟨(some 13), .lens (.t 12), .none⟩,
      ⟨(some 14), .bin .gtr (.t 13) (.c (.int .i64 0)), .none⟩,
      ⟨(some 15), .mov (.t 14), .none⟩,
      ⟨(some 16), .fa 2 (.t 1), (some (15, true))⟩,
      ⟨(some 17), .ld1 (.t 16), (some (15, true))⟩,
      ⟨(some 18), .fa 2 (.t 1), (some (15, true))⟩,
      ⟨(some 19), .ld1 (.t 18), (some (15, true))⟩,
      ⟨(some 20), .lens (.t 19), (some (15, true))⟩]
def Tryd.fn21_r6 : List AIns :=
   [⟨(some 21), .bin .sub (.t 20) (.c (.int .i64 1)), (some (15, true))⟩,
     ⟨(some 22), .ids (.t 17) (.t 21), (some (15, true))⟩,
     ⟨(some 23), .bin .neq (.t 22) (.c (.int .u8 10)), (some (15, true))⟩,
     ⟨(some 24), .pick (.t 15) (.t 23) (.c (.bool false)), .none⟩]
def Tryd.fn21_r7 : List AIns :=
   [⟨(some 2), .mov (.c (.int .i64 4)), .none⟩]
def Tryd.fn21_r8 : List AIns :=
   [⟨(some 25), .fa 2 (.t 1), .none⟩,
     ⟨(some 26), .ld1 (.t 25), .none⟩,
     ⟨(some 27), .lens (.t 26), .none⟩,
     ⟨(some 28), .bin .gtr (.t 27) (.c (.int .i64 1048576)), .none⟩]
def Tryd.fn21_r9 : List AIns :=
   [⟨(some 2), .mov (.c (.int .i64 6)), .none⟩]
def Tryd.fn21_r10 : List AIns :=
   [⟨(some 2), .mov (.c (.int .i64 0)), .none⟩]
def Tryd.fn21 : AFun :=
 ⟨29, [.tmp 2],
 (.seq (.seq (.reg Tryd.fn21_r0)
  (.trim [1]))
 (.seq (.seq (.seq (.reg Tryd.fn21_r1)
   (.trim [1, 6]))
  (.cond (.t 6)
   (.seq (.seq (.reg Tryd.fn21_r2)
    (.trim [2]))
   .ret)
   .skip))
 (.seq (.seq (.seq (.reg Tryd.fn21_r3)
   (.trim [1, 10]))
  (.cond (.t 10)
   (.seq (.seq (.reg Tryd.fn21_r4)
    (.trim [2]))
   .ret)
   .skip))
 (.seq (.seq (.seq (.seq (.reg Tryd.fn21_r5)
    (.trim [1, 15, 17, 20]))
   (.seq (.reg Tryd.fn21_r6)
   (.trim [1, 24])))
  (.cond (.t 24)
   (.seq (.seq (.reg Tryd.fn21_r7)
    (.trim [2]))
   .ret)
   .skip))
 (.seq (.seq (.seq (.reg Tryd.fn21_r8)
   (.trim [28]))
  (.cond (.t 28)
   (.seq (.seq (.reg Tryd.fn21_r9)
    (.trim [2]))
   .ret)
   .skip))
 (.seq (.seq (.reg Tryd.fn21_r10)
  (.trim [2]))
 .ret)))))), true⟩
/-! signalbench/signalbenchref57.lines -/
def Tryd.fn22_r0 : List AIns :=
   [⟨(some 2), .mov (.c (.int .i64 0)), .none⟩]
def Tryd.fn22_r1 : List AIns :=
   [⟨(some 3), .mov (.t 0), .none⟩,
    ⟨(some 4), .call 19 [(.t 3), (.c (.str [10]))], .none⟩,
    ⟨(some 2), .mov (.t 4), .none⟩]
def Tryd.fn22 : AFun :=
 ⟨5, [.tmp 2],
 (.seq (.seq (.reg Tryd.fn22_r0)
  (.trim [0]))
 (.seq (.seq (.reg Tryd.fn22_r1)
  (.trim [2]))
 .ret)), false⟩
/-! signalbench/bench.head -/
def Tryd.fn24_r0 : List AIns :=
   [⟨(some 2), .alloc 38 [(.str []), (.str []), (.str [])], .none⟩,
    ⟨(some 3), .mov (.c (.int .i64 0)), .none⟩,
    ⟨(some 4), .mov (.c (.bool false)), .none⟩]
def Tryd.fn24_r1 : List AIns :=
   [⟨(some 8), .mov (.t 0), .none⟩,
    ⟨(some 9), .call 39 [(.t 8), (.c (.str [32]))], .none⟩,
    ⟨(some 5), .mov (.t 9), .none⟩]
def Tryd.fn24_r2 : List AIns :=
   [⟨(some 10), .mov (.t 5), .none⟩,
      ⟨(some 11), .lenl (.t 10), .none⟩,
      ⟨(some 12), .bin .neq (.t 11) (.c (.int .i64 4)), .none⟩,
      ⟨(some 13), .mov (.t 12), .none⟩,
      ⟨(some 14), .mov (.t 5), (some (13, false))⟩,
      ⟨(some 15), .ia 1 (.t 14) (.c (.int .i64 0)), (some (13, false))⟩,
      ⟨(some 16), .ld1 (.t 15), (some (13, false))⟩,
      ⟨(some 17), .bin .neq (.t 16) (.c (.str [61, 61])), (some (13, false))⟩,
      ⟨(some 18), .pick (.t 13) (.c (.bool true)) (.t 17), .none⟩,
      ⟨(some 19), .mov (.t 18), .none⟩]
def Tryd.fn24_r3 : List AIns :=
   [⟨(some 20), .mov (.t 5), (some (19, false))⟩,
      ⟨(some 21), .ia 1 (.t 20) (.c (.int .i64 1)), (some (19, false))⟩,
      ⟨(some 22), .ld1 (.t 21), (some (19, false))⟩,
      ⟨(some 23), .call 28 [(.t 22)], (some (19, false))⟩,
      ⟨(some 24), .un .not (.t 23), (some (19, false))⟩,
      ⟨(some 25), .pick (.t 19) (.c (.bool true)) (.t 24), .none⟩,
      ⟨(some 26), .mov (.t 25), .none⟩,
      ⟨(some 27), .mov (.t 5), (some (26, false))⟩,
      ⟨(some 28), .ia 1 (.t 27) (.c (.int .i64 2)), (some (26, false))⟩,
      ⟨(some 29), .ld1 (.t 28), (some (26, false))⟩]
def Tryd.fn24_r4 : List AIns :=
   [⟨(some 30), .call 29 [(.t 29)], (some (26, false))⟩,
     ⟨(some 31), .un .not (.t 30), (some (26, false))⟩,
     ⟨(some 32), .pick (.t 26) (.c (.bool true)) (.t 31), .none⟩]
def Tryd.fn24_r5 : List AIns :=
   [⟨(some 33), .bld [(.str []), (.str []), (.str [])] [], .none⟩,
      ⟨.none, .st 3 (.t 2) (.t 33), .none⟩,
      ⟨(some 3), .mov (.c (.int .i64 0)), .none⟩,
      ⟨(some 4), .mov (.c (.bool false)), .none⟩]
def Tryd.fn24_r6 : List AIns :=
   [⟨(some 35), .mov (.t 5), .none⟩,
    ⟨(some 36), .ia 1 (.t 35) (.c (.int .i64 3)), .none⟩,
    ⟨(some 37), .ld1 (.t 36), .none⟩,
    ⟨(some 38), .call 40 [(.t 37)], .none⟩,
    ⟨(some 34), .mov (.t 38), .none⟩,
    ⟨(some 39), .ext 0 (.t 34), .none⟩,
    ⟨(some 40), .ext 1 (.t 34), .none⟩,
    ⟨(some 6), .mov (.t 39), .none⟩,
    ⟨(some 7), .mov (.t 40), .none⟩]
def Tryd.fn24_r7a : List DIns :=
   ⟨⟨(some 47), .bld [(.str []), (.str []), (.str [])] [(0, 1, (.t 43)), (1, 1, (.t 46))], .none⟩, [2, 5, 1, 0, 4, 3], [9, 10, 11], 0⟩ ::
   ⟨⟨(some 48), .mov (.t 6), .none⟩, [], [10, 11], 0⟩ ::
   ⟨⟨(some 49), .mov (.t 7), .none⟩, [], [11], 0⟩ ::
   ⟨⟨.none, .st 3 (.t 2) (.t 47), .none⟩, [6, 0, 1, 2, 3, 4, 5], [10, 11], 2⟩ ::
   ⟨⟨(some 3), .mov (.t 48), .none⟩, [7, 9, 0, 1, 2, 3, 4, 5, 6], [11], 0⟩ ::
   ⟨⟨(some 4), .mov (.t 49), .none⟩, [8, 10, 0, 1, 2, 3, 4, 5, 6, 7, 9], [], 0⟩ ::
   []
def Tryd.fn24_r7 : List DIns :=
   ⟨⟨(some 41), .mov (.t 5), .none⟩, [], [1, 2, 6, 9, 10, 11], 0⟩ ::
   ⟨⟨(some 42), .ia 1 (.t 41) (.c (.int .i64 1)), .none⟩, [0], [2, 6, 9, 10, 11], 0⟩ ::
   ⟨⟨(some 43), .ld1 (.t 42), .none⟩, [1, 0], [6, 9, 10, 11], 1⟩ ::
   ⟨⟨(some 44), .mov (.t 5), .none⟩, [], [4, 5, 6, 9, 10, 11], 0⟩ ::
   ⟨⟨(some 45), .ia 1 (.t 44) (.c (.int .i64 2)), .none⟩, [3], [5, 6, 9, 10, 11], 0⟩ ::
   ⟨⟨(some 46), .ld1 (.t 45), .none⟩, [4, 3], [6, 9, 10, 11], 1⟩ ::
   Tryd.fn24_r7a
def Tryd.fn24 : AFun :=
 ⟨50, [.celln 2 3, .tmp 3, .tmp 4],
 (.seq (.seq (.reg Tryd.fn24_r0)
  (.trim [0, 2]))
 (.seq (.seq (.reg Tryd.fn24_r1)
  (.trim [2, 5]))
 (.seq (.seq (.seq (.seq (.reg Tryd.fn24_r2)
    (.trim [2, 5, 19]))
   (.seq (.seq (.reg Tryd.fn24_r3)
    (.trim [2, 5, 26, 29]))
   (.seq (.reg Tryd.fn24_r4)
   (.trim [2, 5, 32]))))
  (.cond (.t 32)
   (.seq (.seq (.reg Tryd.fn24_r5)
    (.trim [2, 3, 4]))
   .ret)
   .skip))
 (.seq (.seq (.reg Tryd.fn24_r6)
  (.trim [2, 5, 6, 7]))
 (.seq (.seq (.regd Tryd.fn24_r7)
  (.trim [2, 3, 4]))
 .ret))))), true⟩
/-! signalbench/bench.take -/
def Tryd.fn25_r0 : List AIns :=
   [⟨(some 4), .mov (.c (.str [])), .none⟩,
    ⟨(some 5), .mov (.c (.str [])), .none⟩,
    ⟨(some 6), .mov (.c (.bool false)), .none⟩]
def Tryd.fn25_r1 : List AIns :=
   [⟨(some 7), .mov (.c (.int .i64 0)), .none⟩]
def Tryd.fn25_r2 : List AIns :=
   [⟨(some 9), .mov (.t 1), .none⟩,
     ⟨(some 10), .mov (.c (.int .i64 0)), .none⟩]
def Tryd.fn25_r3 : List AIns :=
   [⟨(some 11), .bin .lss (.t 10) (.t 9), .none⟩]
def Tryd.fn25_r4 : List AIns :=
   [⟨(some 12), .mov (.t 0), .none⟩,
         ⟨(some 13), .mov (.t 7), .none⟩,
         ⟨(some 14), .sub (.t 12) (some (.t 13)) .none, .none⟩,
         ⟨(some 15), .call 41 [(.t 14), (.c (.int .u8 10))], .none⟩,
         ⟨(some 8), .mov (.t 15), .none⟩]
def Tryd.fn25_r5 : List AIns :=
   [⟨(some 16), .mov (.t 8), .none⟩,
          ⟨(some 17), .bin .lss (.t 16) (.c (.int .i64 0)), .none⟩]
def Tryd.fn25_r6 : List AIns :=
   [⟨(some 4), .mov (.c (.str [])), .none⟩,
           ⟨(some 5), .mov (.c (.str [])), .none⟩,
           ⟨(some 6), .mov (.c (.bool false)), .none⟩]
def Tryd.fn25_r7 : List AIns :=
   [⟨(some 18), .mov (.t 7), .none⟩,
        ⟨(some 19), .mov (.t 8), .none⟩,
        ⟨(some 20), .bin .add (.t 19) (.c (.int .i64 1)), .none⟩,
        ⟨(some 21), .bin .add (.t 18) (.t 20), .none⟩,
        ⟨(some 7), .mov (.t 21), .none⟩]
def Tryd.fn25_r8 : List AIns :=
   [⟨(some 22), .bin .add (.t 10) (.c (.int .i64 1)), .none⟩,
      ⟨(some 10), .mov (.t 22), .none⟩]
def Tryd.fn25_r9a : List DIns :=
   ⟨⟨(some 29), .mov (.t 7), .none⟩, [], [7, 10], 0⟩ ::
   ⟨⟨(some 30), .bin .leq (.t 29) (.c (.int .i64 1048576)), .none⟩, [6], [10], 0⟩ ::
   ⟨⟨(some 4), .mov (.t 25), .none⟩, [2, 0, 1], [9, 10], 0⟩ ::
   ⟨⟨(some 5), .mov (.t 28), .none⟩, [5, 8, 0, 1, 2, 3, 4], [10], 0⟩ ::
   ⟨⟨(some 6), .mov (.t 30), .none⟩, [7, 9, 0, 1, 2, 3, 4, 5, 6, 8], [], 0⟩ ::
   []
def Tryd.fn25_r9 : List DIns :=
   ⟨⟨(some 23), .mov (.t 0), .none⟩, [], [2, 8, 9, 10], 0⟩ ::
   ⟨⟨(some 24), .mov (.t 7), .none⟩, [], [2, 8, 9, 10], 0⟩ ::
   ⟨⟨(some 25), .sub (.t 23) .none (some (.t 24)), .none⟩, [0, 1], [8, 9, 10], 0⟩ ::
   ⟨⟨(some 26), .mov (.t 0), .none⟩, [], [5, 9, 10], 0⟩ ::
   ⟨⟨(some 27), .mov (.t 7), .none⟩, [], [5, 9, 10], 0⟩ ::
   ⟨⟨(some 28), .sub (.t 26) (some (.t 27)) .none, .none⟩, [3, 4], [9, 10], 0⟩ ::
   Tryd.fn25_r9a
def Tryd.fn25_l0 : ACode :=
 (.seq (.seq (.reg Tryd.fn25_r3)
     (.trim [0, 7, 9, 10, 11]))
    (.seq (.cond (.t 11)
      .skip
      (.exit 0))
    (.seq (.block 1
      (.seq (.seq (.reg Tryd.fn25_r4)
       (.trim [0, 7, 8, 9, 10]))
      (.seq (.seq (.seq (.reg Tryd.fn25_r5)
        (.trim [0, 7, 8, 9, 10, 17]))
       (.cond (.t 17)
        (.seq (.seq (.reg Tryd.fn25_r6)
         (.trim [4, 5, 6]))
        .ret)
        .skip))
      (.seq (.reg Tryd.fn25_r7)
      (.trim [0, 7, 9, 10])))))
    (.seq (.reg Tryd.fn25_r8)
    (.trim [0, 7, 9, 10])))))
def Tryd.fn25 : AFun :=
 ⟨31, [.tmp 4, .tmp 5, .tmp 6],
 (.seq (.seq (.reg Tryd.fn25_r0)
  (.trim [0, 1]))
 (.seq (.seq (.reg Tryd.fn25_r1)
  (.trim [0, 1, 7]))
 (.seq (.seq (.seq (.reg Tryd.fn25_r2)
   (.trim [0, 7, 9, 10]))
  (.block 0
   (.loop (some [0, 7, 9, 10])
    Tryd.fn25_l0)))
 (.seq (.seq (.regd Tryd.fn25_r9)
  (.trim [4, 5, 6]))
 .ret)))), true⟩
/-! signalbench/signalbenchref57.take -/
def Tryd.fn26_r0 : List AIns :=
   [⟨(some 4), .mov (.c (.str [])), .none⟩,
    ⟨(some 5), .mov (.c (.bool false)), .none⟩]
def Tryd.fn26_r1 : List AIns :=
   [⟨(some 6), .mov (.c (.int .i64 0)), .none⟩]
def Tryd.fn26_r2 : List AIns :=
   [⟨(some 7), .mov (.c (.int .i64 0)), .none⟩]
def Tryd.fn26_r3 : List AIns :=
   [⟨(some 9), .mov (.t 7), .none⟩,
        ⟨(some 10), .mov (.t 1), .none⟩,
        ⟨(some 11), .bin .lss (.t 9) (.t 10), .none⟩]
def Tryd.fn26_r4 : List AIns :=
   [⟨(some 14), .mov (.t 0), .none⟩,
         ⟨(some 15), .mov (.t 6), .none⟩,
         ⟨(some 16), .sub (.t 14) (some (.t 15)) .none, .none⟩,
         ⟨(some 17), .call 35 [(.t 16), (.c (.str [10]))], .none⟩,
         ⟨(some 8), .mov (.t 17), .none⟩]
def Tryd.fn26_r5 : List AIns :=
   [⟨(some 18), .mov (.t 8), .none⟩,
          ⟨(some 19), .bin .lss (.t 18) (.c (.int .i64 0)), .none⟩]
def Tryd.fn26_r6 : List AIns :=
   [⟨(some 4), .mov (.c (.str [])), .none⟩,
           ⟨(some 5), .mov (.c (.bool false)), .none⟩]
def Tryd.fn26_r7 : List AIns :=
   [⟨(some 20), .mov (.t 6), .none⟩,
        ⟨(some 21), .mov (.t 8), .none⟩,
        ⟨(some 22), .bin .add (.t 21) (.c (.int .i64 1)), .none⟩,
        ⟨(some 23), .bin .add (.t 20) (.t 22), .none⟩,
        ⟨(some 6), .mov (.t 23), .none⟩]
def Tryd.fn26_r8 : List AIns :=
   [⟨(some 12), .mov (.t 7), .none⟩,
      ⟨(some 13), .bin .add (.t 12) (.c (.int .i64 1)), .none⟩,
      ⟨(some 7), .mov (.t 13), .none⟩]
def Tryd.fn26_r9 : List AIns :=
   [⟨(some 24), .mov (.t 0), .none⟩,
    ⟨(some 25), .mov (.t 6), .none⟩,
    ⟨(some 26), .sub (.t 24) .none (some (.t 25)), .none⟩,
    ⟨(some 4), .mov (.t 26), .none⟩,
    ⟨(some 5), .mov (.c (.bool true)), .none⟩]
def Tryd.fn26_l0 : ACode :=
 (.seq (.seq (.seq (.reg Tryd.fn26_r3)
      (.trim [0, 1, 6, 7, 11]))
     (.cond (.t 11)
      .skip
      (.exit 0)))
    (.seq (.block 1
      (.seq (.seq (.reg Tryd.fn26_r4)
       (.trim [0, 1, 6, 7, 8]))
      (.seq (.seq (.seq (.reg Tryd.fn26_r5)
        (.trim [0, 1, 6, 7, 8, 19]))
       (.cond (.t 19)
        (.seq (.seq (.reg Tryd.fn26_r6)
         (.trim [4, 5]))
        .ret)
        .skip))
      (.seq (.reg Tryd.fn26_r7)
      (.trim [0, 1, 6, 7])))))
    (.seq (.reg Tryd.fn26_r8)
    (.trim [0, 1, 6, 7]))))
def Tryd.fn26 : AFun :=
 ⟨27, [.tmp 4, .tmp 5],
 (.seq (.seq (.reg Tryd.fn26_r0)
  (.trim [0, 1]))
 (.seq (.seq (.reg Tryd.fn26_r1)
  (.trim [0, 1, 6]))
 (.seq (.seq (.seq (.reg Tryd.fn26_r2)
   (.trim [0, 1, 6, 7]))
  (.block 0
   (.loop (some [0, 1, 6, 7])
    Tryd.fn26_l0)))
 (.seq (.seq (.reg Tryd.fn26_r9)
  (.trim [4, 5]))
 .ret)))), true⟩
/-! signalbench/signalbenchref57.head -/
def Tryd.fn27_r0 : List AIns :=
   [⟨(some 4), .alloc 38 [(.str []), (.str []), (.str [])], .none⟩,
    ⟨(some 5), .mov (.c (.int .i64 0)), .none⟩,
    ⟨(some 6), .mov (.c (.bool false)), .none⟩]
def Tryd.fn27_r1 : List AIns :=
   [⟨(some 10), .mov (.t 0), .none⟩,
    ⟨(some 11), .call 39 [(.t 10), (.c (.str [32]))], .none⟩,
    ⟨(some 7), .mov (.t 11), .none⟩]
def Tryd.fn27_r2 : List AIns :=
   [⟨(some 12), .mov (.t 7), .none⟩,
      ⟨(some 13), .lenl (.t 12), .none⟩,
      ⟨(some 14), .bin .neq (.t 13) (.c (.int .i64 4)), .none⟩,
      ⟨(some 15), .mov (.t 14), .none⟩,
      ⟨(some 16), .mov (.t 7), (some (15, false))⟩,
      ⟨(some 17), .ia 1 (.t 16) (.c (.int .i64 0)), (some (15, false))⟩,
      ⟨(some 18), .ld1 (.t 17), (some (15, false))⟩,
      ⟨(some 19), .bin .neq (.t 18) (.c (.str [61, 61])), (some (15, false))⟩,
      ⟨(some 20), .pick (.t 15) (.c (.bool true)) (.t 19), .none⟩,
      ⟨(some 21), .mov (.t 20), .none⟩]
def Tryd.fn27_r3 : List AIns :=
   [⟨(some 22), .mov (.t 7), (some (21, false))⟩,
      ⟨(some 23), .ia 1 (.t 22) (.c (.int .i64 1)), (some (21, false))⟩,
      ⟨(some 24), .ld1 (.t 23), (some (21, false))⟩,
      ⟨(some 25), .call 36 [(.t 24)], (some (21, false))⟩,
      ⟨(some 26), .un .not (.t 25), (some (21, false))⟩,
      ⟨(some 27), .pick (.t 21) (.c (.bool true)) (.t 26), .none⟩,
      ⟨(some 28), .mov (.t 27), .none⟩,
      ⟨(some 29), .mov (.t 7), (some (28, false))⟩,
      ⟨(some 30), .ia 1 (.t 29) (.c (.int .i64 2)), (some (28, false))⟩,
      ⟨(some 31), .ld1 (.t 30), (some (28, false))⟩]
def Tryd.fn27_r4 : List AIns :=
   [⟨(some 32), .call 37 [(.t 31)], (some (28, false))⟩,
     ⟨(some 33), .un .not (.t 32), (some (28, false))⟩,
     ⟨(some 34), .pick (.t 28) (.c (.bool true)) (.t 33), .none⟩]
def Tryd.fn27_r5 : List AIns :=
   [⟨(some 35), .bld [(.str []), (.str []), (.str [])] [], .none⟩,
      ⟨.none, .st 3 (.t 4) (.t 35), .none⟩,
      ⟨(some 5), .mov (.c (.int .i64 0)), .none⟩,
      ⟨(some 6), .mov (.c (.bool false)), .none⟩]
def Tryd.fn27_r6 : List AIns :=
   [⟨(some 37), .mov (.t 7), .none⟩,
    ⟨(some 38), .ia 1 (.t 37) (.c (.int .i64 3)), .none⟩,
    ⟨(some 39), .ld1 (.t 38), .none⟩,
    ⟨(some 40), .mov (.t 1), .none⟩,
    ⟨(some 41), .call 42 [(.t 39), (.t 40)], .none⟩,
    ⟨(some 36), .mov (.t 41), .none⟩,
    ⟨(some 42), .ext 0 (.t 36), .none⟩,
    ⟨(some 43), .ext 1 (.t 36), .none⟩,
    ⟨(some 8), .mov (.t 42), .none⟩,
    ⟨(some 9), .mov (.t 43), .none⟩]
def Tryd.fn27_r7a : List DIns :=
   ⟨⟨(some 50), .bld [(.str []), (.str []), (.str [])] [(0, 1, (.t 46)), (1, 1, (.t 49))], .none⟩, [2, 5, 1, 0, 4, 3], [9, 10, 11], 0⟩ ::
   ⟨⟨(some 51), .mov (.t 8), .none⟩, [], [10, 11], 0⟩ ::
   ⟨⟨(some 52), .mov (.t 9), .none⟩, [], [11], 0⟩ ::
   ⟨⟨.none, .st 3 (.t 4) (.t 50), .none⟩, [6, 0, 1, 2, 3, 4, 5], [10, 11], 2⟩ ::
   ⟨⟨(some 5), .mov (.t 51), .none⟩, [7, 9, 0, 1, 2, 3, 4, 5, 6], [11], 0⟩ ::
   ⟨⟨(some 6), .mov (.t 52), .none⟩, [8, 10, 0, 1, 2, 3, 4, 5, 6, 7, 9], [], 0⟩ ::
   []
def Tryd.fn27_r7 : List DIns :=
   ⟨⟨(some 44), .mov (.t 7), .none⟩, [], [1, 2, 6, 9, 10, 11], 0⟩ ::
   ⟨⟨(some 45), .ia 1 (.t 44) (.c (.int .i64 1)), .none⟩, [0], [2, 6, 9, 10, 11], 0⟩ ::
   ⟨⟨(some 46), .ld1 (.t 45), .none⟩, [1, 0], [6, 9, 10, 11], 1⟩ ::
   ⟨⟨(some 47), .mov (.t 7), .none⟩, [], [4, 5, 6, 9, 10, 11], 0⟩ ::
   ⟨⟨(some 48), .ia 1 (.t 47) (.c (.int .i64 2)), .none⟩, [3], [5, 6, 9, 10, 11], 0⟩ ::
   ⟨⟨(some 49), .ld1 (.t 48), .none⟩, [4, 3], [6, 9, 10, 11], 1⟩ ::
   Tryd.fn27_r7a
def Tryd.fn27 : AFun :=
 ⟨53, [.celln 4 3, .tmp 5, .tmp 6],
 (.seq (.seq (.reg Tryd.fn27_r0)
  (.trim [0, 1, 4]))
 (.seq (.seq (.reg Tryd.fn27_r1)
  (.trim [1, 4, 7]))
 (.seq (.seq (.seq (.seq (.reg Tryd.fn27_r2)
    (.trim [1, 4, 7, 21]))
   (.seq (.seq (.reg Tryd.fn27_r3)
    (.trim [1, 4, 7, 28, 31]))
   (.seq (.reg Tryd.fn27_r4)
   (.trim [1, 4, 7, 34]))))
  (.cond (.t 34)
   (.seq (.seq (.reg Tryd.fn27_r5)
    (.trim [4, 5, 6]))
   .ret)
   .skip))
 (.seq (.seq (.reg Tryd.fn27_r6)
  (.trim [4, 7, 8, 9]))
 (.seq (.seq (.regd Tryd.fn27_r7)
  (.trim [4, 5, 6]))
 .ret))))), true⟩
/-! signalbench/bench.known -/
def Tryd.fn28_r0 : List AIns :=
   [⟨(some 2), .mov (.c (.bool false)), .none⟩]
def Tryd.fn28_r1 : List AIns :=
   [⟨(some 3), .mov (.t 0), .none⟩]
def Tryd.fn28_r2 : List AIns :=
   [⟨(some 5), .bin .eql (.t 3) (.c (.str [99, 97, 112, 116, 117, 114, 101])), .none⟩,
       ⟨(some 4), .mov (.t 5), .none⟩]
def Tryd.fn28_r3 : List AIns :=
   [⟨(some 6), .bin .eql (.t 3) (.c (.str [115, 99, 114, 105, 112, 116])), .none⟩,
        ⟨(some 4), .mov (.t 6), .none⟩]
def Tryd.fn28_r4 : List AIns :=
   [⟨(some 7), .bin .eql (.t 3) (.c (.str [115, 116, 97, 99, 107])), .none⟩,
         ⟨(some 4), .mov (.t 7), .none⟩]
def Tryd.fn28_r5 : List AIns :=
   [⟨(some 8), .bin .eql (.t 3) (.c (.str [116, 114, 105, 103, 103, 101, 114])), .none⟩,
          ⟨(some 4), .mov (.t 8), .none⟩]
def Tryd.fn28_r6 : List AIns :=
   [⟨(some 9), .bin .eql (.t 3) (.c (.str [108, 105, 109, 105, 116, 115])), .none⟩,
          ⟨(some 4), .mov (.t 9), .none⟩]
def Tryd.fn28_r7 : List AIns :=
   [⟨(some 2), .mov (.c (.bool true)), .none⟩]
def Tryd.fn28_r8 : List AIns :=
   [⟨(some 2), .mov (.c (.bool false)), .none⟩]
def Tryd.fn28 : AFun :=
 ⟨10, [.tmp 2],
 (.seq (.seq (.reg Tryd.fn28_r0)
  (.trim [0]))
 (.seq (.seq (.seq (.reg Tryd.fn28_r1)
   (.trim [3]))
  (.block 0
   (.seq (.seq (.seq (.reg Tryd.fn28_r2)
     (.trim [3, 4]))
    (.cond (.t 4)
     .skip
     (.seq (.seq (.reg Tryd.fn28_r3)
      (.trim [3, 4]))
     (.cond (.t 4)
      .skip
      (.seq (.seq (.reg Tryd.fn28_r4)
       (.trim [3, 4]))
      (.cond (.t 4)
       .skip
       (.seq (.seq (.reg Tryd.fn28_r5)
        (.trim [3, 4]))
       (.cond (.t 4)
        .skip
        (.seq (.reg Tryd.fn28_r6)
        (.trim [4]))))))))))
   (.cond (.t 4)
    (.seq (.seq (.reg Tryd.fn28_r7)
     (.trim [2]))
    .ret)
    .skip))))
 (.seq (.seq (.reg Tryd.fn28_r8)
  (.trim [2]))
 .ret))), false⟩
/-! signalbench/lex.Name -/
def Tryd.fn29_r0 : List AIns :=
   [⟨(some 2), .mov (.c (.bool false)), .none⟩]
def Tryd.fn29_r1 : List AIns :=
   [⟨(some 4), .mov (.t 0), .none⟩,
      ⟨(some 5), .bin .eql (.t 4) (.c (.str [])), .none⟩,
      ⟨(some 6), .mov (.t 5), .none⟩,
      ⟨(some 7), .mov (.t 0), (some (6, false))⟩,
      ⟨(some 8), .lens (.t 7), (some (6, false))⟩,
      ⟨(some 9), .bin .gtr (.t 8) (.c (.int .i64 16)), (some (6, false))⟩,
      ⟨(some 10), .pick (.t 6) (.c (.bool true)) (.t 9), .none⟩,
      ⟨(some 11), .mov (.t 10), .none⟩,
      ⟨(some 12), .mov (.t 0), (some (11, false))⟩,
      ⟨(some 13), .ids (.t 12) (.c (.int .i64 0)), (some (11, false))⟩]
def Tryd.fn29_r2 : List AIns :=
   [⟨(some 14), .conv .i32 (.t 13), (some (11, false))⟩,
     ⟨(some 15), .call 43 [(.t 14)], (some (11, false))⟩,
     ⟨(some 16), .un .not (.t 15), (some (11, false))⟩,
     ⟨(some 17), .pick (.t 11) (.c (.bool true)) (.t 16), .none⟩]
def Tryd.fn29_r3 : List AIns :=
   [⟨(some 2), .mov (.c (.bool false)), .none⟩]
def Tryd.fn29_r4 : List AIns :=
   [⟨(some 18), .mov (.t 0), .none⟩,
     ⟨(some 19), .lens (.t 18), .none⟩,
     ⟨(some 20), .mov (.c (.int .i64 0)), .none⟩]
def Tryd.fn29_r5 : List AIns :=
   [⟨(some 21), .bin .lss (.t 20) (.t 19), .none⟩]
def Tryd.fn29_r6 : List AIns :=
   [⟨(some 22), .mov (.t 20), .none⟩,
         ⟨(some 3), .mov (.t 22), .none⟩]
def Tryd.fn29_r7 : List AIns :=
   [⟨(some 23), .mov (.t 0), .none⟩,
         ⟨(some 24), .mov (.t 3), .none⟩,
         ⟨(some 25), .ids (.t 23) (.t 24), .none⟩,
         ⟨(some 26), .conv .i32 (.t 25), .none⟩,
         ⟨(some 27), .call 44 [(.t 26)], .none⟩,
         ⟨(some 28), .un .not (.t 27), .none⟩]
def Tryd.fn29_r8 : List AIns :=
   [⟨(some 2), .mov (.c (.bool false)), .none⟩]
def Tryd.fn29_r9 : List AIns :=
   [⟨(some 29), .bin .add (.t 20) (.c (.int .i64 1)), .none⟩,
      ⟨(some 20), .mov (.t 29), .none⟩]
def Tryd.fn29_r10 : List AIns :=
   [⟨(some 2), .mov (.c (.bool true)), .none⟩]
def Tryd.fn29_l0 : ACode :=
 (.seq (.seq (.reg Tryd.fn29_r5)
     (.trim [0, 19, 20, 21]))
    (.seq (.cond (.t 21)
      .skip
      (.exit 0))
    (.seq (.block 1
      (.seq (.seq (.reg Tryd.fn29_r6)
       (.trim [0, 3, 19, 20]))
      (.seq (.seq (.reg Tryd.fn29_r7)
       (.trim [0, 19, 20, 28]))
      (.cond (.t 28)
       (.seq (.seq (.reg Tryd.fn29_r8)
        (.trim [2]))
       .ret)
       .skip))))
    (.seq (.reg Tryd.fn29_r9)
    (.trim [0, 19, 20])))))
def Tryd.fn29 : AFun :=
 ⟨30, [.tmp 2],
 (.seq (.seq (.reg Tryd.fn29_r0)
  (.trim [0]))
 (.seq (.seq (.seq (.seq (.reg Tryd.fn29_r1)
    (.trim [0, 11, 13]))
   (.seq (.reg Tryd.fn29_r2)
   (.trim [0, 17])))
  (.cond (.t 17)
   (.seq (.seq (.reg Tryd.fn29_r3)
    (.trim [2]))
   .ret)
   .skip))
 (.seq (.seq (.seq (.reg Tryd.fn29_r4)
   (.trim [0, 19, 20]))
  (.block 0
   (.loop (some [0, 19, 20])
    Tryd.fn29_l0)))
 (.seq (.seq (.reg Tryd.fn29_r10)
  (.trim [2]))
 .ret)))), false⟩
/-! (*strings.Builder).copyCheck -/
def Tryd.fn31_r0 : List AIns :=
   [⟨(some 2), .mov (.t 0), .none⟩,
    ⟨(some 3), .nlc (.t 2), .none⟩,
    ⟨(some 4), .fa 0 (.t 3), .none⟩,
    ⟨(some 5), .ld1 (.t 4), .none⟩,
    ⟨(some 6), .eqv false true .ptr (.t 5) (.c .nilp), .none⟩]
def Tryd.fn31_r1 : List AIns :=
   [⟨(some 7), .mov (.t 0), .none⟩,
    ⟨(some 8), .mov (.t 0), .none⟩,
    ⟨(some 9), .tous (.t 8), .none⟩,
    ⟨(some 10), .call 46 [(.t 9)], .none⟩,
    ⟨(some 11), .frus 43 2 (.t 10), .none⟩,
    ⟨(some 12), .nlc (.t 7), .none⟩,
    ⟨(some 13), .fa 0 (.t 12), .none⟩,
    ⟨.none, .st 1 (.t 13) (.t 11), .none⟩]
def Tryd.fn31_r2 : List AIns :=
   [⟨(some 14), .mov (.t 0), .none⟩,
     ⟨(some 15), .nlc (.t 14), .none⟩,
     ⟨(some 16), .fa 0 (.t 15), .none⟩,
     ⟨(some 17), .ld1 (.t 16), .none⟩,
     ⟨(some 18), .mov (.t 0), .none⟩,
     ⟨(some 19), .eqv true false .ptr (.t 17) (.t 18), .none⟩]
def Tryd.fn31_r3 : List AIns :=
   [⟨.none, .ext 0 (.c .nilp), .none⟩]
def Tryd.fn31 : AFun :=
 ⟨20, [],
 (.seq (.seq (.reg Tryd.fn31_r0)
  (.trim [0, 6]))
 (.cond (.t 6)
  (.seq (.reg Tryd.fn31_r1)
  (.trim []))
  (.seq (.seq (.reg Tryd.fn31_r2)
   (.trim [19]))
  (.cond (.t 19)
   (.seq (.reg Tryd.fn31_r3)
   (.trim []))
   .skip)))), false⟩
/-! signalbench/signalbenchref57.Kind -/
def Tryd.fn36_r0 : List AIns :=
   [⟨(some 2), .mov (.c (.bool false)), .none⟩]
def Tryd.fn36_r1 : List AIns :=
   [⟨(some 3), .mov (.t 0), .none⟩,
     ⟨(some 4), .bin .eql (.t 3) (.c (.str [99, 97, 112, 116, 117, 114, 101])), .none⟩,
     ⟨(some 5), .mov (.t 4), .none⟩,
     ⟨(some 6), .mov (.t 0), (some (5, false))⟩,
     ⟨(some 7), .bin .eql (.t 6) (.c (.str [115, 99, 114, 105, 112, 116])), (some (5, false))⟩,
     ⟨(some 8), .pick (.t 5) (.c (.bool true)) (.t 7), .none⟩,
     ⟨(some 9), .mov (.t 8), .none⟩,
     ⟨(some 10), .mov (.t 0), (some (9, false))⟩,
     ⟨(some 11), .bin .eql (.t 10) (.c (.str [115, 116, 97, 99, 107])), (some (9, false))⟩,
     ⟨(some 12), .pick (.t 9) (.c (.bool true)) (.t 11), .none⟩]
def Tryd.fn36_r2 : List AIns :=
   [⟨(some 13), .mov (.t 12), .none⟩,
    ⟨(some 14), .mov (.t 0), (some (13, false))⟩,
    ⟨(some 15), .bin .eql (.t 14) (.c (.str [116, 114, 105, 103, 103, 101, 114])), (some (13, false))⟩,
    ⟨(some 16), .pick (.t 13) (.c (.bool true)) (.t 15), .none⟩,
    ⟨(some 17), .mov (.t 16), .none⟩,
    ⟨(some 18), .mov (.t 0), (some (17, false))⟩,
    ⟨(some 19), .bin .eql (.t 18) (.c (.str [108, 105, 109, 105, 116, 115])), (some (17, false))⟩,
    ⟨(some 20), .pick (.t 17) (.c (.bool true)) (.t 19), .none⟩,
    ⟨(some 2), .mov (.t 20), .none⟩]
def Tryd.fn36 : AFun :=
 ⟨21, [.tmp 2],
 (.seq (.seq (.reg Tryd.fn36_r0)
  (.trim [0]))
 (.seq (.seq (.seq (.reg Tryd.fn36_r1)
   (.trim [0, 12]))
  (.seq (.reg Tryd.fn36_r2)
  (.trim [2])))
 .ret)), false⟩
/-! signalbench/signalbenchref05.Name -/
def Tryd.fn37_r0 : List AIns :=
   [⟨(some 2), .mov (.c (.bool false)), .none⟩]
def Tryd.fn37_r1 : List AIns :=
   [⟨(some 4), .mov (.t 0), .none⟩,
      ⟨(some 5), .lens (.t 4), .none⟩,
      ⟨(some 6), .bin .lss (.t 5) (.c (.int .i64 1)), .none⟩,
      ⟨(some 7), .mov (.t 6), .none⟩,
      ⟨(some 8), .mov (.t 0), (some (7, false))⟩,
      ⟨(some 9), .lens (.t 8), (some (7, false))⟩,
      ⟨(some 10), .bin .gtr (.t 9) (.c (.int .i64 16)), (some (7, false))⟩,
      ⟨(some 11), .pick (.t 7) (.c (.bool true)) (.t 10), .none⟩,
      ⟨(some 12), .mov (.t 11), .none⟩,
      ⟨(some 13), .mov (.t 0), (some (12, false))⟩]
def Tryd.fn37_r2 : List AIns :=
   [⟨(some 14), .ids (.t 13) (.c (.int .i64 0)), (some (12, false))⟩,
     ⟨(some 15), .call 49 [(.t 14)], (some (12, false))⟩,
     ⟨(some 16), .un .not (.t 15), (some (12, false))⟩,
     ⟨(some 17), .pick (.t 12) (.c (.bool true)) (.t 16), .none⟩]
def Tryd.fn37_r3 : List AIns :=
   [⟨(some 2), .mov (.c (.bool false)), .none⟩]
def Tryd.fn37_r4 : List AIns :=
   [⟨(some 3), .mov (.c (.int .i64 0)), .none⟩]
def Tryd.fn37_r5 : List AIns :=
   [⟨(some 18), .mov (.t 3), .none⟩,
        ⟨(some 19), .mov (.t 0), .none⟩,
        ⟨(some 20), .lens (.t 19), .none⟩,
        ⟨(some 21), .bin .lss (.t 18) (.t 20), .none⟩]
def Tryd.fn37_r6 : List AIns :=
   [⟨(some 24), .mov (.t 0), .none⟩,
         ⟨(some 25), .mov (.t 3), .none⟩,
         ⟨(some 26), .ids (.t 24) (.t 25), .none⟩,
         ⟨(some 27), .call 50 [(.t 26)], .none⟩,
         ⟨(some 28), .un .not (.t 27), .none⟩]
def Tryd.fn37_r7 : List AIns :=
   [⟨(some 2), .mov (.c (.bool false)), .none⟩]
def Tryd.fn37_r8 : List AIns :=
   [⟨(some 22), .mov (.t 3), .none⟩,
      ⟨(some 23), .bin .add (.t 22) (.c (.int .i64 1)), .none⟩,
      ⟨(some 3), .mov (.t 23), .none⟩]
def Tryd.fn37_r9 : List AIns :=
   [⟨(some 2), .mov (.c (.bool true)), .none⟩]
def Tryd.fn37_l0 : ACode :=
 (.seq (.seq (.seq (.reg Tryd.fn37_r5)
      (.trim [0, 3, 21]))
     (.cond (.t 21)
      .skip
      (.exit 0)))
    (.seq (.block 1
      (.seq (.seq (.reg Tryd.fn37_r6)
       (.trim [0, 3, 28]))
      (.cond (.t 28)
       (.seq (.seq (.reg Tryd.fn37_r7)
        (.trim [2]))
       .ret)
       .skip)))
    (.seq (.reg Tryd.fn37_r8)
    (.trim [0, 3]))))
def Tryd.fn37 : AFun :=
 ⟨29, [.tmp 2],
 (.seq (.seq (.reg Tryd.fn37_r0)
  (.trim [0]))
 (.seq (.seq (.seq (.seq (.reg Tryd.fn37_r1)
    (.trim [0, 12, 13]))
   (.seq (.reg Tryd.fn37_r2)
   (.trim [0, 17])))
  (.cond (.t 17)
   (.seq (.seq (.reg Tryd.fn37_r3)
    (.trim [2]))
   .ret)
   .skip))
 (.seq (.seq (.seq (.reg Tryd.fn37_r4)
   (.trim [0, 3]))
  (.block 0
   (.loop (some [0, 3])
    Tryd.fn37_l0)))
 (.seq (.seq (.reg Tryd.fn37_r9)
  (.trim [2]))
 .ret)))), false⟩
/-! signalbench/bench.count -/
def Tryd.fn40_r0 : List AIns :=
   [⟨(some 2), .mov (.c (.int .i64 0)), .none⟩,
    ⟨(some 3), .mov (.c (.bool false)), .none⟩]
def Tryd.fn40_r1 : List AIns :=
   [⟨(some 7), .mov (.t 0), .none⟩,
      ⟨(some 8), .bin .eql (.t 7) (.c (.str [])), .none⟩,
      ⟨(some 9), .mov (.t 8), .none⟩,
      ⟨(some 10), .mov (.t 0), (some (9, false))⟩,
      ⟨(some 11), .lens (.t 10), (some (9, false))⟩,
      ⟨(some 12), .bin .gtr (.t 11) (.c (.int .i64 1)), (some (9, false))⟩,
      ⟨(some 13), .mov (.t 12), (some (9, false))⟩,
      ⟨(some 14), .mov (.t 0), (some (13, true))⟩,
      ⟨(some 15), .ids (.t 14) (.c (.int .i64 0)), (some (13, true))⟩,
      ⟨(some 16), .bin .eql (.t 15) (.c (.int .u8 48)), (some (13, true))⟩]
def Tryd.fn40_r2 : List AIns :=
   [⟨(some 17), .pick (.t 13) (.t 16) (.c (.bool false)), (some (9, false))⟩,
     ⟨(some 18), .pick (.t 9) (.c (.bool true)) (.t 17), .none⟩]
def Tryd.fn40_r3 : List AIns :=
   [⟨(some 2), .mov (.c (.int .i64 0)), .none⟩,
      ⟨(some 3), .mov (.c (.bool false)), .none⟩]
def Tryd.fn40_r4 : List AIns :=
   [⟨(some 4), .mov (.c (.int .i64 0)), .none⟩]
def Tryd.fn40_r5 : List AIns :=
   [⟨(some 19), .mov (.t 0), .none⟩,
     ⟨(some 20), .s2b 5 (.t 19), .none⟩,
     ⟨(some 21), .lenl (.t 20), .none⟩,
     ⟨(some 22), .mov (.c (.int .i64 0)), .none⟩]
def Tryd.fn40_r6 : List AIns :=
   [⟨(some 23), .bin .lss (.t 22) (.t 21), .none⟩]
def Tryd.fn40_r7 : List AIns :=
   [⟨(some 24), .ia 1 (.t 20) (.t 22), .none⟩,
         ⟨(some 25), .ld1 (.t 24), .none⟩,
         ⟨(some 6), .mov (.t 25), .none⟩]
def Tryd.fn40_r8 : List AIns :=
   [⟨(some 26), .mov (.t 6), .none⟩,
          ⟨(some 27), .bin .lss (.t 26) (.c (.int .u8 48)), .none⟩,
          ⟨(some 28), .mov (.t 27), .none⟩,
          ⟨(some 29), .mov (.t 6), (some (28, false))⟩,
          ⟨(some 30), .bin .gtr (.t 29) (.c (.int .u8 57)), (some (28, false))⟩,
          ⟨(some 31), .pick (.t 28) (.c (.bool true)) (.t 30), .none⟩]
def Tryd.fn40_r9 : List AIns :=
   [⟨(some 2), .mov (.c (.int .i64 0)), .none⟩,
           ⟨(some 3), .mov (.c (.bool false)), .none⟩]
def Tryd.fn40_r10 : List AIns :=
   [⟨(some 32), .mov (.t 4), .none⟩,
        ⟨(some 33), .bin .mul (.c (.int .i64 10)) (.t 32), .none⟩,
        ⟨(some 34), .mov (.t 6), .none⟩,
        ⟨(some 35), .bin .sub (.t 34) (.c (.int .u8 48)), .none⟩,
        ⟨(some 36), .conv .i64 (.t 35), .none⟩,
        ⟨(some 37), .bin .add (.t 33) (.t 36), .none⟩,
        ⟨(some 38), .mn (.t 37) (.c (.int .i64 1099511627776)), .none⟩,
        ⟨(some 4), .mov (.t 38), .none⟩]
def Tryd.fn40_r11 : List AIns :=
   [⟨(some 39), .bin .add (.t 22) (.c (.int .i64 1)), .none⟩,
      ⟨(some 22), .mov (.t 39), .none⟩]
def Tryd.fn40_r12 : List AIns :=
   [⟨(some 40), .mov (.t 4), .none⟩,
    ⟨(some 2), .mov (.t 40), .none⟩,
    ⟨(some 3), .mov (.c (.bool true)), .none⟩]
def Tryd.fn40_l0 : ACode :=
 (.seq (.seq (.reg Tryd.fn40_r6)
     (.trim [4, 20, 21, 22, 23]))
    (.seq (.cond (.t 23)
      .skip
      (.exit 0))
    (.seq (.block 1
      (.seq (.seq (.reg Tryd.fn40_r7)
       (.trim [4, 6, 20, 21, 22]))
      (.seq (.seq (.seq (.reg Tryd.fn40_r8)
        (.trim [4, 6, 20, 21, 22, 31]))
       (.cond (.t 31)
        (.seq (.seq (.reg Tryd.fn40_r9)
         (.trim [2, 3]))
        .ret)
        .skip))
      (.seq (.reg Tryd.fn40_r10)
      (.trim [4, 20, 21, 22])))))
    (.seq (.reg Tryd.fn40_r11)
    (.trim [4, 20, 21, 22])))))
def Tryd.fn40 : AFun :=
 ⟨41, [.tmp 2, .tmp 3],
 (.seq (.seq (.reg Tryd.fn40_r0)
  (.trim [0]))
 (.seq (.seq (.seq (.seq (.reg Tryd.fn40_r1)
    (.trim [0, 9, 13, 16]))
   (.seq (.reg Tryd.fn40_r2)
   (.trim [0, 18])))
  (.cond (.t 18)
   (.seq (.seq (.reg Tryd.fn40_r3)
    (.trim [2, 3]))
   .ret)
   .skip))
 (.seq (.seq (.reg Tryd.fn40_r4)
  (.trim [0, 4]))
 (.seq (.seq (.seq (.reg Tryd.fn40_r5)
   (.trim [4, 20, 21, 22]))
  (.block 0
   (.loop (some [4, 20, 21, 22])
    Tryd.fn40_l0)))
 (.seq (.seq (.reg Tryd.fn40_r12)
  (.trim [2, 3]))
 .ret))))), true⟩
/-! signalbench/signalbenchref57.number -/
def Tryd.fn42_r0 : List AIns :=
   [⟨(some 4), .mov (.c (.int .i64 0)), .none⟩,
    ⟨(some 5), .mov (.c (.bool false)), .none⟩]
def Tryd.fn42_r1 : List AIns :=
   [⟨(some 8), .mov (.t 0), .none⟩,
      ⟨(some 9), .bin .eql (.t 8) (.c (.str [])), .none⟩,
      ⟨(some 10), .mov (.t 9), .none⟩,
      ⟨(some 11), .mov (.t 0), (some (10, false))⟩,
      ⟨(some 12), .lens (.t 11), (some (10, false))⟩,
      ⟨(some 13), .bin .gtr (.t 12) (.c (.int .i64 1)), (some (10, false))⟩,
      ⟨(some 14), .mov (.t 13), (some (10, false))⟩,
      ⟨(some 15), .mov (.t 0), (some (14, true))⟩,
      ⟨(some 16), .ids (.t 15) (.c (.int .i64 0)), (some (14, true))⟩,
      ⟨(some 17), .bin .eql (.t 16) (.c (.int .u8 48)), (some (14, true))⟩]
def Tryd.fn42_r2 : List AIns :=
   [⟨(some 18), .pick (.t 14) (.t 17) (.c (.bool false)), (some (10, false))⟩,
     ⟨(some 19), .pick (.t 10) (.c (.bool true)) (.t 18), .none⟩]
def Tryd.fn42_r3 : List AIns :=
   [⟨(some 4), .mov (.c (.int .i64 0)), .none⟩,
      ⟨(some 5), .mov (.c (.bool false)), .none⟩]
def Tryd.fn42_r4 : List AIns :=
   [⟨(some 6), .mov (.c (.int .i64 0)), .none⟩]
def Tryd.fn42_r5 : List AIns :=
   [⟨(some 7), .mov (.c (.int .i64 0)), .none⟩]
def Tryd.fn42_r6 : List AIns :=
   [⟨(some 20), .mov (.t 7), .none⟩,
        ⟨(some 21), .mov (.t 0), .none⟩,
        ⟨(some 22), .lens (.t 21), .none⟩,
        ⟨(some 23), .bin .lss (.t 20) (.t 22), .none⟩]
def Tryd.fn42_r7 : List AIns :=
   [⟨(some 26), .mov (.t 0), .none⟩,
           ⟨(some 27), .mov (.t 7), .none⟩,
           ⟨(some 28), .ids (.t 26) (.t 27), .none⟩,
           ⟨(some 29), .bin .lss (.t 28) (.c (.int .u8 48)), .none⟩,
           ⟨(some 30), .mov (.t 29), .none⟩,
           ⟨(some 31), .mov (.t 0), (some (30, false))⟩,
           ⟨(some 32), .mov (.t 7), (some (30, false))⟩,
           ⟨(some 33), .ids (.t 31) (.t 32), (some (30, false))⟩,
           ⟨(some 34), .bin .gtr (.t 33) (.c (.int .u8 57)), (some (30, false))⟩,
           ⟨(some 35), .pick (.t 30) (.c (.bool true)) (.t 34), .none⟩]
def Tryd.fn42_r8 : List AIns :=
   [⟨(some 36), .mov (.t 35), .none⟩,
          ⟨(some 37), .mov (.t 6), (some (36, false))⟩,
          ⟨(some 38), .mov (.t 1), (some (36, false))⟩,
          ⟨(some 39), .bin .gtr (.t 37) (.t 38), (some (36, false))⟩,
          ⟨(some 40), .pick (.t 36) (.c (.bool true)) (.t 39), .none⟩]
def Tryd.fn42_r9 : List AIns :=
   [⟨(some 4), .mov (.c (.int .i64 0)), .none⟩,
           ⟨(some 5), .mov (.c (.bool false)), .none⟩]
def Tryd.fn42_r10 : List AIns :=
   [⟨(some 41), .mov (.t 6), .none⟩,
        ⟨(some 42), .bin .mul (.c (.int .i64 10)) (.t 41), .none⟩,
        ⟨(some 43), .mov (.t 0), .none⟩,
        ⟨(some 44), .mov (.t 7), .none⟩,
        ⟨(some 45), .ids (.t 43) (.t 44), .none⟩,
        ⟨(some 46), .bin .sub (.t 45) (.c (.int .u8 48)), .none⟩,
        ⟨(some 47), .conv .i64 (.t 46), .none⟩,
        ⟨(some 48), .bin .add (.t 42) (.t 47), .none⟩,
        ⟨(some 6), .mov (.t 48), .none⟩]
def Tryd.fn42_r11 : List AIns :=
   [⟨(some 24), .mov (.t 7), .none⟩,
      ⟨(some 25), .bin .add (.t 24) (.c (.int .i64 1)), .none⟩,
      ⟨(some 7), .mov (.t 25), .none⟩]
def Tryd.fn42_r12 : List AIns :=
   [⟨(some 49), .mov (.t 6), .none⟩,
    ⟨(some 50), .mov (.t 6), .none⟩,
    ⟨(some 51), .mov (.t 1), .none⟩,
    ⟨(some 52), .bin .leq (.t 50) (.t 51), .none⟩,
    ⟨(some 4), .mov (.t 49), .none⟩,
    ⟨(some 5), .mov (.t 52), .none⟩]
def Tryd.fn42_l0 : ACode :=
 (.seq (.seq (.seq (.reg Tryd.fn42_r6)
      (.trim [0, 1, 6, 7, 23]))
     (.cond (.t 23)
      .skip
      (.exit 0)))
    (.seq (.block 1
      (.seq (.seq (.seq (.seq (.reg Tryd.fn42_r7)
         (.trim [0, 1, 6, 7, 35]))
        (.seq (.reg Tryd.fn42_r8)
        (.trim [0, 1, 6, 7, 40])))
       (.cond (.t 40)
        (.seq (.seq (.reg Tryd.fn42_r9)
         (.trim [4, 5]))
        .ret)
        .skip))
      (.seq (.reg Tryd.fn42_r10)
      (.trim [0, 1, 6, 7]))))
    (.seq (.reg Tryd.fn42_r11)
    (.trim [0, 1, 6, 7]))))
def Tryd.fn42 : AFun :=
 ⟨53, [.tmp 4, .tmp 5],
 (.seq (.seq (.reg Tryd.fn42_r0)
  (.trim [0, 1]))
 (.seq (.seq (.seq (.seq (.reg Tryd.fn42_r1)
    (.trim [0, 1, 10, 14, 17]))
   (.seq (.reg Tryd.fn42_r2)
   (.trim [0, 1, 19])))
  (.cond (.t 19)
   (.seq (.seq (.reg Tryd.fn42_r3)
    (.trim [4, 5]))
   .ret)
   .skip))
 (.seq (.seq (.reg Tryd.fn42_r4)
  (.trim [0, 1, 6]))
 (.seq (.seq (.seq (.reg Tryd.fn42_r5)
   (.trim [0, 1, 6, 7]))
  (.block 0
   (.loop (some [0, 1, 6, 7])
    Tryd.fn42_l0)))
 (.seq (.seq (.reg Tryd.fn42_r12)
  (.trim [4, 5]))
 .ret))))), true⟩
/-! signalbench/lex.letter -/
def Tryd.fn43_r0 : List AIns :=
   [⟨(some 2), .mov (.c (.bool false)), .none⟩]
def Tryd.fn43_r1 : List AIns :=
   [⟨(some 3), .mov (.t 0), .none⟩,
    ⟨(some 4), .bin .leq (.c (.int .i32 97)) (.t 3), .none⟩,
    ⟨(some 5), .mov (.t 4), .none⟩,
    ⟨(some 6), .mov (.t 0), (some (5, true))⟩,
    ⟨(some 7), .bin .leq (.t 6) (.c (.int .i32 122)), (some (5, true))⟩,
    ⟨(some 8), .pick (.t 5) (.t 7) (.c (.bool false)), .none⟩,
    ⟨(some 2), .mov (.t 8), .none⟩]
def Tryd.fn43 : AFun :=
 ⟨9, [.tmp 2],
 (.seq (.seq (.reg Tryd.fn43_r0)
  (.trim [0]))
 (.seq (.seq (.reg Tryd.fn43_r1)
  (.trim [2]))
 .ret)), false⟩
/-! signalbench/lex.word -/
def Tryd.fn44_r0 : List AIns :=
   [⟨(some 2), .mov (.c (.bool false)), .none⟩]
def Tryd.fn44_r1 : List AIns :=
   [⟨(some 3), .mov (.t 0), .none⟩,
     ⟨(some 4), .call 43 [(.t 3)], .none⟩,
     ⟨(some 5), .mov (.t 4), .none⟩,
     ⟨(some 6), .mov (.t 0), (some (5, false))⟩,
     ⟨(some 7), .call 53 [(.t 6)], (some (5, false))⟩,
     ⟨(some 8), .pick (.t 5) (.c (.bool true)) (.t 7), .none⟩,
     ⟨(some 9), .mov (.t 8), .none⟩,
     ⟨(some 10), .mov (.t 0), (some (9, false))⟩,
     ⟨(some 11), .bin .eql (.t 10) (.c (.int .i32 95)), (some (9, false))⟩,
     ⟨(some 12), .pick (.t 9) (.c (.bool true)) (.t 11), .none⟩]
def Tryd.fn44_r2 : List AIns :=
   [⟨(some 2), .mov (.t 12), .none⟩]
def Tryd.fn44 : AFun :=
 ⟨13, [.tmp 2],
 (.seq (.seq (.reg Tryd.fn44_r0)
  (.trim [0]))
 (.seq (.seq (.seq (.reg Tryd.fn44_r1)
   (.trim [12]))
  (.seq (.reg Tryd.fn44_r2)
  (.trim [2])))
 .ret)), false⟩
/-! signalbench/signalbenchref05.letter -/
def Tryd.fn49_r0 : List AIns :=
   [⟨(some 2), .mov (.c (.bool false)), .none⟩]
def Tryd.fn49_r1 : List AIns :=
   [⟨(some 3), .mov (.t 0), .none⟩,
    ⟨(some 4), .bin .geq (.t 3) (.c (.int .u8 97)), .none⟩,
    ⟨(some 5), .mov (.t 4), .none⟩,
    ⟨(some 6), .mov (.t 0), (some (5, true))⟩,
    ⟨(some 7), .bin .leq (.t 6) (.c (.int .u8 122)), (some (5, true))⟩,
    ⟨(some 8), .pick (.t 5) (.t 7) (.c (.bool false)), .none⟩,
    ⟨(some 2), .mov (.t 8), .none⟩]
def Tryd.fn49 : AFun :=
 ⟨9, [.tmp 2],
 (.seq (.seq (.reg Tryd.fn49_r0)
  (.trim [0]))
 (.seq (.seq (.reg Tryd.fn49_r1)
  (.trim [2]))
 .ret)), false⟩
/-! signalbench/signalbenchref05.inner -/
def Tryd.fn50_r0 : List AIns :=
   [⟨(some 2), .mov (.c (.bool false)), .none⟩]
def Tryd.fn50_r1 : List AIns :=
   [⟨(some 3), .mov (.t 0), .none⟩,
     ⟨(some 4), .call 49 [(.t 3)], .none⟩,
     ⟨(some 5), .mov (.t 4), .none⟩,
     ⟨(some 6), .mov (.t 0), (some (5, false))⟩,
     ⟨(some 7), .call 61 [(.t 6)], (some (5, false))⟩,
     ⟨(some 8), .pick (.t 5) (.c (.bool true)) (.t 7), .none⟩,
     ⟨(some 9), .mov (.t 8), .none⟩,
     ⟨(some 10), .mov (.t 0), (some (9, false))⟩,
     ⟨(some 11), .bin .eql (.t 10) (.c (.int .u8 95)), (some (9, false))⟩,
     ⟨(some 12), .pick (.t 9) (.c (.bool true)) (.t 11), .none⟩]
def Tryd.fn50_r2 : List AIns :=
   [⟨(some 2), .mov (.t 12), .none⟩]
def Tryd.fn50 : AFun :=
 ⟨13, [.tmp 2],
 (.seq (.seq (.reg Tryd.fn50_r0)
  (.trim [0]))
 (.seq (.seq (.seq (.reg Tryd.fn50_r1)
   (.trim [12]))
  (.seq (.reg Tryd.fn50_r2)
  (.trim [2])))
 .ret)), false⟩
/-! signalbench/lex.digit -/
def Tryd.fn53_r0 : List AIns :=
   [⟨(some 2), .mov (.c (.bool false)), .none⟩]
def Tryd.fn53_r1 : List AIns :=
   [⟨(some 3), .mov (.t 0), .none⟩,
    ⟨(some 4), .bin .leq (.c (.int .i32 48)) (.t 3), .none⟩,
    ⟨(some 5), .mov (.t 4), .none⟩,
    ⟨(some 6), .mov (.t 0), (some (5, true))⟩,
    ⟨(some 7), .bin .leq (.t 6) (.c (.int .i32 57)), (some (5, true))⟩,
    ⟨(some 8), .pick (.t 5) (.t 7) (.c (.bool false)), .none⟩,
    ⟨(some 2), .mov (.t 8), .none⟩]
def Tryd.fn53 : AFun :=
 ⟨9, [.tmp 2],
 (.seq (.seq (.reg Tryd.fn53_r0)
  (.trim [0]))
 (.seq (.seq (.reg Tryd.fn53_r1)
  (.trim [2]))
 .ret)), false⟩
/-! signalbench/signalbenchref05.digit -/
def Tryd.fn61_r0 : List AIns :=
   [⟨(some 2), .mov (.c (.bool false)), .none⟩]
def Tryd.fn61_r1 : List AIns :=
   [⟨(some 3), .mov (.t 0), .none⟩,
    ⟨(some 4), .bin .geq (.t 3) (.c (.int .u8 48)), .none⟩,
    ⟨(some 5), .mov (.t 4), .none⟩,
    ⟨(some 6), .mov (.t 0), (some (5, true))⟩,
    ⟨(some 7), .bin .leq (.t 6) (.c (.int .u8 57)), (some (5, true))⟩,
    ⟨(some 8), .pick (.t 5) (.t 7) (.c (.bool false)), .none⟩,
    ⟨(some 2), .mov (.t 8), .none⟩]
def Tryd.fn61 : AFun :=
 ⟨9, [.tmp 2],
 (.seq (.seq (.reg Tryd.fn61_r0)
  (.trim [0]))
 (.seq (.seq (.reg Tryd.fn61_r1)
  (.trim [2]))
 .ret)), true⟩
theorem Tryd.fn3_ok : cfunL Tryd.prog Tryd.f3 [.cut [(2, [1])], .cut [(3, [1, 9])], .cut [(2, [2])], .cut [(7, [1, 3, 4])], .cut [(7, [3, 4, 5, 6])], .cut [(10, [29, 30]), (2, [2])]] true = some Tryd.fn3 := by kernel_rfl
theorem Tryd.fn4_ok : cfunL Tryd.prog Tryd.f4 [.cut [(1, [0])], .cut [(3, [0, 11])], .cut [(2, [2])], .cut [(10, [0, 3, 4, 5])], .cut [(10, [3, 4, 5, 6, 7, 8])], .cut [(10, [6, 33, 34]), (7, [2])]] true = some Tryd.fn4 := by kernel_rfl
theorem Tryd.fn5_ok : cfunL Tryd.prog Tryd.f5 [.cut [(2, [1, 2])], .cut [(8, [1, 2, 22])], .cut [(2, [4])], .cut [(7, [1, 2, 5, 6])], .cut [(2, [1, 2, 5, 30])], .cut [(10, [1, 2, 7, 8, 9])], .cut [(10, [1, 43, 46]), (2, [1, 48])], .cut [(1, [4])], .cut [(10, [1, 10, 12])], .cut [(2, [1, 10, 56])], .cut [(7, [1, 13, 14])], .cut [(7, [68])], .cut [(1, [4])], .cut [(2, [4])]] true = some Tryd.fn5 := by kernel_rfl
theorem Tryd.fn6_ok : cfunL Tryd.prog Tryd.f6 [.cut [(2, [1, 2, 3])], .cut [(4, [1, 2, 3, 10])], .cut [(2, [6])], .keep [6]] true = some Tryd.fn6 := by kernel_rfl
theorem Tryd.fn7_ok : cfunL Tryd.prog Tryd.f7 [.cut [(2, [1])], .cut [(4, [1, 7])], .cut [(1, [2])], .cut [(1, [1, 3])], .keep [1, 3], .cut [(5, [1, 3, 12])], .cut [(8, [1, 3, 22])], .cut [(1, [2])], .cut [(3, [1, 3])], .cut [(1, [2])]] true = some Tryd.fn7 := by kernel_rfl
theorem Tryd.fn8_ok : cfunL Tryd.prog Tryd.f8 [.cut [(1, [])], .cut [(9, [1, 2])], .cut [(9, [1, 2, 3, 4, 5])], .cut [(10, [3, 5, 27]), (10, [3, 37]), (9, [0])]] true = some Tryd.fn8 := by kernel_rfl
theorem Tryd.fn9_ok : cfunL Tryd.prog Tryd.f9 [.cut [(3, [1])], .cut [(4, [1, 11, 12, 13])], .keep [1, 11, 12, 13], .cut [(1, [1, 11, 12, 13, 14])], .cut [(4, [1, 5, 11, 12, 13])], .cut [(3, [1, 6, 11, 12, 13])], .cut [(2, [1, 6, 11, 12, 13, 20])], .cut [(3, [2, 3])], .cut [(2, [1, 11, 12, 13])], .cut [(1, [1, 7])], .cut [(4, [7, 24, 25, 26])], .keep [7, 24, 25, 26], .cut [(1, [7, 24, 25, 26, 27])], .cut [(4, [7, 9, 24, 25, 26])], .keep [7, 24, 25, 26], .cut [(2, [7, 24, 25, 26])], .cut [(3, [2, 3])]] true = some Tryd.fn9 := by kernel_rfl
theorem Tryd.fn10_ok : cfunL Tryd.prog Tryd.f10 [.cut [(3, [1])], .cut [(1, [1, 4])], .cut [(1, [1, 4, 5])], .keep [1, 4, 5], .cut [(5, [1, 4, 5, 12])], .cut [(7, [1, 4, 5, 6])], .cut [(3, [1, 4, 5, 6, 7])], .cut [(2, [1, 4, 5, 6, 7, 23])], .cut [(3, [2, 3])], .keep [1, 4, 5], .cut [(3, [1, 4, 5])], .cut [(3, [2, 3])]] true = some Tryd.fn10 := by kernel_rfl
theorem Tryd.fn11_ok : cfunL Tryd.prog Tryd.f11 [.cut [(3, [0, 2])], .cut [(1, [0, 2, 5])], .cut [(1, [0, 2, 5, 6])], .keep [0, 2, 5, 6], .cut [(2, [0, 2, 5, 6, 13])], .cut [(9, [2, 5, 6, 7, 8, 9])], .cut [(2, [2, 5, 6, 7, 8, 21])], .cut [(5, [2, 3, 4])], .cut [(10, [2, 5, 6, 8, 9, 10, 11])], .cut [(2, [2, 5, 6, 8, 10, 11, 31])], .cut [(5, [2, 3, 4])], .cut [(10, [2, 5, 6, 8, 10, 11, 40]), (1, [2, 5, 6, 8, 9, 10, 11])], .cut [(2, [2, 5, 6, 8, 10, 11, 43])], .cut [(5, [2, 3, 4])], .cut [(7, [2, 5, 6, 8, 11])], .cut [(2, [0, 2, 5, 6, 11])], .cut [(5, [0, 2, 5, 6])], .cut [(4, [2, 3, 4])]] false = some Tryd.fn11 := by kernel_rfl
theorem Tryd.fn12_ok : cfunL Tryd.prog Tryd.f12 [.cut [(3, [0, 2])], .cut [(1, [0, 2, 5])], .cut [(1, [0, 2, 5, 6])], .keep [0, 2, 5, 6], .cut [(2, [0, 2, 5, 6, 13])], .cut [(7, [0, 2, 5, 6, 7, 8])], .cut [(2, [0, 2, 5, 6, 7, 20])], .cut [(5, [2, 3, 4])], .cut [(10, [0, 2, 5, 6, 7, 23, 32]), (6, [0, 2, 5, 6, 7, 8, 9, 10])], .cut [(2, [0, 2, 5, 6, 7, 9, 10, 36])], .cut [(5, [2, 3, 4])], .cut [(5, [0, 2, 5, 6, 9, 10])], .cut [(8, [0, 2, 5, 6, 8, 9, 10, 11])], .cut [(7, [0, 2, 5, 6, 9, 10, 11, 55])], .cut [(5, [2, 3, 4])], .cut [(3, [0, 2, 5, 6, 9, 10, 11])], .cut [(7, [0, 2, 5, 6, 10, 11])], .cut [(5, [0, 2, 5, 6, 10])], .cut [(5, [0, 2, 5, 6])], .cut [(4, [2, 3, 4])]] false = some Tryd.fn12 := by kernel_rfl
theorem Tryd.fn13_ok : cfunL Tryd.prog Tryd.f13 [.cut [(3, [2, 3])], .cut [(7, [2, 3, 12])], .cut [(1, [4])], .cut [(1, [2, 3, 5])], .keep [2, 3, 5], .cut [(5, [2, 3, 5, 17])], .keep [2, 3, 5, 30], .cut [(1, [4])], .cut [(3, [2, 3, 5])], .cut [(1, [4])]] true = some Tryd.fn13 := by kernel_rfl
theorem Tryd.fn14_ok : cfunL Tryd.prog Tryd.f14 [.cut [(2, [1, 2, 3])], .cut [(4, [1, 2, 10, 11, 12])], .keep [1, 2, 10, 11, 12], .cut [(1, [1, 2, 10, 11, 12, 13])], .cut [(6, [1, 2, 7, 8, 10, 11, 12])], .cut [(10, [1, 2, 7, 10, 11, 12, 26])], .cut [(2, [6])], .cut [(2, [1, 2, 10, 11, 12])], .cut [(1, [6])]] true = some Tryd.fn14 := by kernel_rfl
theorem Tryd.fn15_ok : cfunL Tryd.prog Tryd.f15 [.cut [(2, [1, 2, 3])], .cut [(1, [1, 2, 3, 7])], .keep [1, 2, 3, 7], .cut [(5, [1, 2, 3, 7, 12])], .cut [(10, [1, 2, 3, 7, 23, 24]), (8, [1, 2, 3, 7, 32])], .cut [(2, [6])], .cut [(3, [1, 2, 3, 7])], .cut [(1, [6])]] true = some Tryd.fn15 := by kernel_rfl
theorem Tryd.fn16_ok : cfunL Tryd.prog Tryd.f16 [.cut [(2, [1])], .cut [(5, [1, 3])], .cut [(1, [2])], .cut [(5, [1, 8])], .cut [(10, [1, 8])], .cut [(1, [2])], .cut [(5, [22])], .cut [(1, [2])], .cut [(1, [2])]] true = some Tryd.fn16 := by kernel_rfl
theorem Tryd.fn17_ok : cfunL Tryd.prog Tryd.f17 [.cut [(2, [0, 1])], .cut [(2, [0, 1])], .cut [(10, [1])], .cut [(4, [4, 5])]] false = some Tryd.fn17 := by kernel_rfl
theorem Tryd.fn20_ok : cfunL Tryd.prog Tryd.f20 [.cut [(1, [0])], .keep [2]] false = some Tryd.fn20 := by kernel_rfl
theorem Tryd.fn21_ok : cfunL Tryd.prog Tryd.f21 [.cut [(2, [1])], .cut [(4, [1, 6])], .cut [(1, [2])], .cut [(4, [1, 10])], .cut [(1, [2])], .cut [(10, [1, 15, 17, 20]), (4, [1, 24])], .cut [(1, [2])], .cut [(4, [28])], .cut [(1, [2])], .cut [(1, [2])]] true = some Tryd.fn21 := by kernel_rfl
theorem Tryd.fn22_ok : cfunL Tryd.prog Tryd.f22 [.cut [(1, [0])], .cut [(3, [2])]] false = some Tryd.fn22 := by kernel_rfl
theorem Tryd.fn24_ok : cfunL Tryd.prog Tryd.f24 [.cut [(3, [0, 2])], .cut [(3, [2, 5])], .cut [(10, [2, 5, 19]), (10, [2, 5, 26, 29]), (3, [2, 5, 32])], .cut [(4, [2, 3, 4])], .cut [(9, [2, 5, 6, 7])], .keep [2, 3, 4]] true = some Tryd.fn24 := by kernel_rfl
theorem Tryd.fn25_ok : cfunL Tryd.prog Tryd.f25 [.cut [(3, [0, 1])], .cut [(1, [0, 1, 7])], .cut [(2, [0, 7, 9, 10])], .keep [0, 7, 9, 10], .cut [(1, [0, 7, 9, 10, 11])], .cut [(5, [0, 7, 8, 9, 10])], .cut [(2, [0, 7, 8, 9, 10, 17])], .cut [(3, [4, 5, 6])], .cut [(5, [0, 7, 9, 10])], .cut [(2, [0, 7, 9, 10])], .keep [4, 5, 6]] true = some Tryd.fn25 := by kernel_rfl
theorem Tryd.fn26_ok : cfunL Tryd.prog Tryd.f26 [.cut [(2, [0, 1])], .cut [(1, [0, 1, 6])], .cut [(1, [0, 1, 6, 7])], .keep [0, 1, 6, 7], .cut [(3, [0, 1, 6, 7, 11])], .cut [(5, [0, 1, 6, 7, 8])], .cut [(2, [0, 1, 6, 7, 8, 19])], .cut [(2, [4, 5])], .cut [(5, [0, 1, 6, 7])], .cut [(3, [0, 1, 6, 7])], .cut [(5, [4, 5])]] true = some Tryd.fn26 := by kernel_rfl
theorem Tryd.fn27_ok : cfunL Tryd.prog Tryd.f27 [.cut [(3, [0, 1, 4])], .cut [(3, [1, 4, 7])], .cut [(10, [1, 4, 7, 21]), (10, [1, 4, 7, 28, 31]), (3, [1, 4, 7, 34])], .cut [(4, [4, 5, 6])], .cut [(10, [4, 7, 8, 9])], .keep [4, 5, 6]] true = some Tryd.fn27 := by kernel_rfl
theorem Tryd.fn28_ok : cfunL Tryd.prog Tryd.f28 [.cut [(1, [0])], .cut [(1, [3])], .cut [(2, [3, 4])], .cut [(2, [3, 4])], .cut [(2, [3, 4])], .cut [(2, [3, 4])], .cut [(2, [4])], .cut [(1, [2])], .cut [(1, [2])]] false = some Tryd.fn28 := by kernel_rfl
theorem Tryd.fn29_ok : cfunL Tryd.prog Tryd.f29 [.cut [(1, [0])], .cut [(10, [0, 11, 13]), (4, [0, 17])], .cut [(1, [2])], .cut [(3, [0, 19, 20])], .keep [0, 19, 20], .cut [(1, [0, 19, 20, 21])], .cut [(2, [0, 3, 19, 20])], .cut [(6, [0, 19, 20, 28])], .cut [(1, [2])], .cut [(2, [0, 19, 20])], .cut [(1, [2])]] false = some Tryd.fn29 := by kernel_rfl
theorem Tryd.fn31_ok : cfunL Tryd.prog Tryd.f31 [.cut [(5, [0, 6])], .cut [(8, [])], .cut [(6, [19])], .cut [(1, [])]] false = some Tryd.fn31 := by kernel_rfl
theorem Tryd.fn36_ok : cfunL Tryd.prog Tryd.f36 [.cut [(1, [0])], .cut [(10, [0, 12]), (9, [2])]] false = some Tryd.fn36 := by kernel_rfl
theorem Tryd.fn37_ok : cfunL Tryd.prog Tryd.f37 [.cut [(1, [0])], .cut [(10, [0, 12, 13]), (4, [0, 17])], .cut [(1, [2])], .cut [(1, [0, 3])], .keep [0, 3], .cut [(4, [0, 3, 21])], .cut [(5, [0, 3, 28])], .cut [(1, [2])], .cut [(3, [0, 3])], .cut [(1, [2])]] false = some Tryd.fn37 := by kernel_rfl
theorem Tryd.fn40_ok : cfunL Tryd.prog Tryd.f40 [.cut [(2, [0])], .cut [(10, [0, 9, 13, 16]), (2, [0, 18])], .cut [(2, [2, 3])], .cut [(1, [0, 4])], .cut [(4, [4, 20, 21, 22])], .keep [4, 20, 21, 22], .cut [(1, [4, 20, 21, 22, 23])], .cut [(3, [4, 6, 20, 21, 22])], .cut [(6, [4, 6, 20, 21, 22, 31])], .cut [(2, [2, 3])], .cut [(8, [4, 20, 21, 22])], .cut [(2, [4, 20, 21, 22])], .cut [(3, [2, 3])]] true = some Tryd.fn40 := by kernel_rfl
theorem Tryd.fn42_ok : cfunL Tryd.prog Tryd.f42 [.cut [(2, [0, 1])], .cut [(10, [0, 1, 10, 14, 17]), (2, [0, 1, 19])], .cut [(2, [4, 5])], .cut [(1, [0, 1, 6])], .cut [(1, [0, 1, 6, 7])], .keep [0, 1, 6, 7], .cut [(4, [0, 1, 6, 7, 23])], .cut [(10, [0, 1, 6, 7, 35]), (5, [0, 1, 6, 7, 40])], .cut [(2, [4, 5])], .cut [(9, [0, 1, 6, 7])], .cut [(3, [0, 1, 6, 7])], .cut [(6, [4, 5])]] true = some Tryd.fn42 := by kernel_rfl
theorem Tryd.fn43_ok : cfunL Tryd.prog Tryd.f43 [.cut [(1, [0])], .cut [(7, [2])]] false = some Tryd.fn43 := by kernel_rfl
theorem Tryd.fn44_ok : cfunL Tryd.prog Tryd.f44 [.cut [(1, [0])], .cut [(10, [12]), (1, [2])]] false = some Tryd.fn44 := by kernel_rfl
theorem Tryd.fn49_ok : cfunL Tryd.prog Tryd.f49 [.cut [(1, [0])], .cut [(7, [2])]] false = some Tryd.fn49 := by kernel_rfl
theorem Tryd.fn50_ok : cfunL Tryd.prog Tryd.f50 [.cut [(1, [0])], .cut [(10, [12]), (1, [2])]] false = some Tryd.fn50 := by kernel_rfl
theorem Tryd.fn53_ok : cfunL Tryd.prog Tryd.f53 [.cut [(1, [0])], .cut [(7, [2])]] false = some Tryd.fn53 := by kernel_rfl
theorem Tryd.fn61_ok : cfunL Tryd.prog Tryd.f61 [.cut [(1, [0])], .cut [(7, [2])]] true = some Tryd.fn61 := by kernel_rfl
def Tryd.tab : List (Nat × AFun) :=
  [(3, Tryd.fn3), (4, Tryd.fn4), (5, Tryd.fn5), (6, Tryd.fn6), (7, Tryd.fn7), (8, Tryd.fn8), (9, Tryd.fn9), (10, Tryd.fn10), (11, Tryd.fn11), (12, Tryd.fn12), (13, Tryd.fn13), (14, Tryd.fn14), (15, Tryd.fn15), (16, Tryd.fn16), (17, Tryd.fn17), (20, Tryd.fn20), (21, Tryd.fn21), (22, Tryd.fn22), (24, Tryd.fn24), (25, Tryd.fn25), (26, Tryd.fn26), (27, Tryd.fn27), (28, Tryd.fn28), (29, Tryd.fn29), (31, Tryd.fn31), (36, Tryd.fn36), (37, Tryd.fn37), (40, Tryd.fn40), (42, Tryd.fn42), (43, Tryd.fn43), (44, Tryd.fn44), (49, Tryd.fn49), (50, Tryd.fn50), (53, Tryd.fn53), (61, Tryd.fn61)]
theorem Tryd.tabOk : TabOk Tryd.prog (lk Tryd.tab) :=
  tabOk_cons Tryd.func3 _ _ Tryd.fn3_ok <|
  tabOk_cons Tryd.func4 _ _ Tryd.fn4_ok <|
  tabOk_cons Tryd.func5 _ _ Tryd.fn5_ok <|
  tabOk_cons Tryd.func6 _ _ Tryd.fn6_ok <|
  tabOk_cons Tryd.func7 _ _ Tryd.fn7_ok <|
  tabOk_cons Tryd.func8 _ _ Tryd.fn8_ok <|
  tabOk_cons Tryd.func9 _ _ Tryd.fn9_ok <|
  tabOk_cons Tryd.func10 _ _ Tryd.fn10_ok <|
  tabOk_cons Tryd.func11 _ _ Tryd.fn11_ok <|
  tabOk_cons Tryd.func12 _ _ Tryd.fn12_ok <|
  tabOk_cons Tryd.func13 _ _ Tryd.fn13_ok <|
  tabOk_cons Tryd.func14 _ _ Tryd.fn14_ok <|
  tabOk_cons Tryd.func15 _ _ Tryd.fn15_ok <|
  tabOk_cons Tryd.func16 _ _ Tryd.fn16_ok <|
  tabOk_cons Tryd.func17 _ _ Tryd.fn17_ok <|
  tabOk_cons Tryd.func20 _ _ Tryd.fn20_ok <|
  tabOk_cons Tryd.func21 _ _ Tryd.fn21_ok <|
  tabOk_cons Tryd.func22 _ _ Tryd.fn22_ok <|
  tabOk_cons Tryd.func24 _ _ Tryd.fn24_ok <|
  tabOk_cons Tryd.func25 _ _ Tryd.fn25_ok <|
  tabOk_cons Tryd.func26 _ _ Tryd.fn26_ok <|
  tabOk_cons Tryd.func27 _ _ Tryd.fn27_ok <|
  tabOk_cons Tryd.func28 _ _ Tryd.fn28_ok <|
  tabOk_cons Tryd.func29 _ _ Tryd.fn29_ok <|
  tabOk_cons Tryd.func31 _ _ Tryd.fn31_ok <|
  tabOk_cons Tryd.func36 _ _ Tryd.fn36_ok <|
  tabOk_cons Tryd.func37 _ _ Tryd.fn37_ok <|
  tabOk_cons Tryd.func40 _ _ Tryd.fn40_ok <|
  tabOk_cons Tryd.func42 _ _ Tryd.fn42_ok <|
  tabOk_cons Tryd.func43 _ _ Tryd.fn43_ok <|
  tabOk_cons Tryd.func44 _ _ Tryd.fn44_ok <|
  tabOk_cons Tryd.func49 _ _ Tryd.fn49_ok <|
  tabOk_cons Tryd.func50 _ _ Tryd.fn50_ok <|
  tabOk_cons Tryd.func53 _ _ Tryd.fn53_ok <|
  tabOk_cons Tryd.func61 _ _ Tryd.fn61_ok <|
  tabOk_nil _
end Go.Am
