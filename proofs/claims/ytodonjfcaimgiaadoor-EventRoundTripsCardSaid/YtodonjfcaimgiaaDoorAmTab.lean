/-
The functions of this cut as the abstract machine has them, and that they are what the compiler makes of the program's. Written by a program. Conditions: none.
-/
import Derived.Test.YtodonjfcaimgiaaDoorMb
import Derived.Test.YtodonjfcaimgiaaDoorProg
import Derived.KernelRfl
namespace Go.Am
open Go.Proofs

theorem tabOk_nil (P : Program) : TabOk P (lk []) := fun f fn h => by cases h
theorem tabOk_cons {P : Program} {i : Nat} {fn : AFun} {l : List (Nat × AFun)} {F : Func} (hF : P.funcs[i]? = some F) (h : List Hint) (v : Bool) (hc : cfunL P F h v = some fn) (hl : TabOk P (lk l)) : TabOk P (lk ((i, fn) :: l)) := fun f fn' hf => by
  by_cases e : i = f
  · subst e
    simp [lk] at hf
    subst hf
    exact ⟨F, h, v, hF, hc⟩
  · simp [lk, e] at hf
    exact hl f fn' hf

/-! signalbench/signalbenchlaw07.EventValid -/
def Tryd.fn3_r0 : List AIns :=
   [⟨(some 2), .box 23 (.t 0), .none⟩,
    ⟨(some 3), .box 23 (.t 1), .none⟩,
    ⟨(some 4), .mov (.c (.bool false)), .none⟩]
def Tryd.fn3_r1 : List AIns :=
   [⟨(some 5), .fa 5 (.t 2), .none⟩,
     ⟨(some 6), .ld1 (.t 5), .none⟩,
     ⟨(some 7), .lens (.t 6), .none⟩,
     ⟨(some 8), .bin .gtr (.t 7) (.c (.int .i64 5000)), .none⟩,
     ⟨(some 9), .mov (.t 8), .none⟩,
     ⟨(some 10), .fa 5 (.t 3), (some (9, false))⟩,
     ⟨(some 11), .ld1 (.t 10), (some (9, false))⟩,
     ⟨(some 12), .lens (.t 11), (some (9, false))⟩,
     ⟨(some 13), .bin .gtr (.t 12) (.c (.int .i64 5000)), (some (9, false))⟩,
     ⟨(some 14), .pick (.t 9) (.c (.bool true)) (.t 13), .none⟩]
def Tryd.fn3_r2 : List AIns :=
   [⟨(some 15), .call 9 [], .none⟩,
      ⟨(some 4), .mov (.t 15), .none⟩]
def Tryd.fn3_r3d : List DIns :=
   ⟨⟨(some 4), .mov (.t 39), .none⟩, [23, 22, 0, 1, 2, 3, 4, 5, 6, 7, 8, 9, 10, 11, 12, 13, 14, 15, 16, 17, 18, 19, 20, 21], [], 0⟩ ::
   []
def Tryd.fn3_r3c : List DIns :=
   ⟨⟨(some 34), .call 15 [(.t 33)], (some (30, true))⟩, [17, 16, 14, 13, 11, 5, 12, 4, 3, 1, 0, 2, 8, 6, 7, 9, 10, 15], [19, 20, 21, 22, 23, 24], 2⟩ ::
   ⟨⟨(some 35), .eqv false false (.st [(0, .none, .int), (1, .none, .int), (2, .none, .int), (3, .none, .int), (4, .none, .int), (5, .none, .str), (6, .none, .int)]) (.t 32) (.t 34), (some (30, true))⟩, [16, 18, 14, 15, 13, 11, 5, 12, 4, 3, 1, 0, 2, 8, 6, 7, 9, 10, 17], [20, 21, 22, 23, 24], 0⟩ ::
   ⟨⟨(some 36), .pick (.t 30) (.t 35) (.c (.bool false)), .none⟩, [14, 19, 13, 11, 5, 12, 4, 3, 1, 0, 2, 8, 6, 7, 9, 10, 16, 18, 15, 17], [21, 22, 23, 24], 0⟩ ::
   ⟨⟨(some 37), .mov (.t 36), .none⟩, [20, 18, 14, 19, 13, 11, 5, 12, 4, 3, 1, 0, 2, 8, 6, 7, 9, 10, 16, 15, 17], [22, 23, 24], 0⟩ ::
   ⟨⟨(some 38), .call 9 [], (some (37, true))⟩, [21, 20, 18, 14, 19, 13, 11, 5, 12, 4, 3, 1, 0, 2, 8, 6, 7, 9, 10, 16, 15, 17], [23, 24], 2⟩ ::
   ⟨⟨(some 39), .pick (.t 37) (.t 38) (.c (.bool false)), .none⟩, [21, 22, 20, 18, 14, 19, 13, 11, 5, 12, 4, 3, 1, 0, 2, 8, 6, 7, 9, 10, 16, 15, 17], [24], 0⟩ ::
   Tryd.fn3_r3d
def Tryd.fn3_r3b : List DIns :=
   ⟨⟨(some 28), .eqv false false .bool (.t 24) (.t 27), (some (21, true))⟩, [8, 11, 5, 6, 7, 4, 3, 1, 0, 2, 9, 10], [13, 14, 15, 16, 17, 18, 19, 20, 21, 22, 23, 24], 0⟩ ::
   ⟨⟨(some 29), .pick (.t 21) (.t 28) (.c (.bool false)), .none⟩, [5, 12, 4, 3, 1, 0, 2, 8, 11, 6, 7, 9, 10], [14, 15, 16, 17, 18, 19, 20, 21, 22, 23, 24], 0⟩ ::
   ⟨⟨(some 30), .mov (.t 29), .none⟩, [13, 11, 5, 12, 4, 3, 1, 0, 2, 8, 6, 7, 9, 10], [15, 16, 17, 18, 19, 20, 21, 22, 23, 24], 0⟩ ::
   ⟨⟨(some 31), .ldn 7 (.t 2), (some (30, true))⟩, [14, 13, 11, 5, 12, 4, 3, 1, 0, 2, 8, 6, 7, 9, 10], [16, 18, 19, 20, 21, 22, 23, 24], 1⟩ ::
   ⟨⟨(some 32), .call 14 [(.t 31)], (some (30, true))⟩, [15, 14, 13, 11, 5, 12, 4, 3, 1, 0, 2, 8, 6, 7, 9, 10], [18, 19, 20, 21, 22, 23, 24], 1⟩ ::
   ⟨⟨(some 33), .ldn 7 (.t 2), (some (30, true))⟩, [14, 13, 11, 5, 12, 4, 3, 1, 0, 2, 8, 6, 7, 9, 10], [18, 19, 20, 21, 22, 23, 24], 1⟩ ::
   Tryd.fn3_r3c
def Tryd.fn3_r3a : List DIns :=
   ⟨⟨(some 22), .ldn 7 (.t 2), (some (21, true))⟩, [5, 4, 3, 1, 0, 2], [8, 11, 12, 13, 14, 15, 16, 17, 18, 19, 20, 21, 22, 23, 24], 1⟩ ::
   ⟨⟨(some 23), .ldn 7 (.t 3), (some (21, true))⟩, [5, 4, 3, 1, 0, 2], [8, 11, 12, 13, 14, 15, 16, 17, 18, 19, 20, 21, 22, 23, 24], 1⟩ ::
   ⟨⟨(some 24), .call 12 [(.t 22), (.t 23)], (some (21, true))⟩, [6, 7, 5, 4, 3, 1, 0, 2], [11, 12, 13, 14, 15, 16, 17, 18, 19, 20, 21, 22, 23, 24], 1⟩ ::
   ⟨⟨(some 25), .ldn 7 (.t 2), (some (21, true))⟩, [5, 4, 3, 1, 0, 2], [11, 12, 13, 14, 15, 16, 17, 18, 19, 20, 21, 22, 23, 24], 1⟩ ::
   ⟨⟨(some 26), .ldn 7 (.t 3), (some (21, true))⟩, [5, 4, 3, 1, 0, 2], [11, 12, 13, 14, 15, 16, 17, 18, 19, 20, 21, 22, 23, 24], 1⟩ ::
   ⟨⟨(some 27), .call 13 [(.t 25), (.t 26)], (some (21, true))⟩, [9, 10, 8, 5, 4, 3, 1, 0, 2, 6, 7], [12, 13, 14, 15, 16, 17, 18, 19, 20, 21, 22, 23, 24], 2⟩ ::
   Tryd.fn3_r3b
def Tryd.fn3_r3 : List DIns :=
   ⟨⟨(some 16), .ldn 7 (.t 2), .none⟩, [], [1, 3, 4, 5, 6, 7, 8, 9, 10, 11, 12, 13, 14, 15, 16, 17, 18, 19, 20, 21, 22, 23, 24], 1⟩ ::
   ⟨⟨(some 17), .call 10 [(.t 16)], .none⟩, [0], [3, 4, 5, 6, 7, 8, 9, 10, 11, 12, 13, 14, 15, 16, 17, 18, 19, 20, 21, 22, 23, 24], 1⟩ ::
   ⟨⟨(some 18), .ldn 7 (.t 2), .none⟩, [], [3, 4, 5, 6, 7, 8, 9, 10, 11, 12, 13, 14, 15, 16, 17, 18, 19, 20, 21, 22, 23, 24], 1⟩ ::
   ⟨⟨(some 19), .call 11 [(.t 18)], .none⟩, [2, 1, 0], [4, 5, 6, 7, 8, 9, 10, 11, 12, 13, 14, 15, 16, 17, 18, 19, 20, 21, 22, 23, 24], 2⟩ ::
   ⟨⟨(some 20), .eqv false false .bool (.t 17) (.t 19), .none⟩, [1, 3, 0, 2], [5, 6, 7, 8, 9, 10, 11, 12, 13, 14, 15, 16, 17, 18, 19, 20, 21, 22, 23, 24], 0⟩ ::
   ⟨⟨(some 21), .mov (.t 20), .none⟩, [4, 3, 1, 0, 2], [6, 7, 8, 9, 10, 11, 12, 13, 14, 15, 16, 17, 18, 19, 20, 21, 22, 23, 24], 0⟩ ::
   Tryd.fn3_r3a
def Tryd.fn3 : AFun :=
 ⟨40, [.tmp 4],
 (.seq (.seq (.reg Tryd.fn3_r0)
  (.trim [2, 3]))
 (.seq (.seq (.seq (.reg Tryd.fn3_r1)
   (.trim [2, 3, 14]))
  (.cond (.t 14)
   (.seq (.seq (.reg Tryd.fn3_r2)
    (.trim [4]))
   .ret)
   .skip))
 (.seq (.seq (.regd Tryd.fn3_r3)
  (.trim [4]))
 .ret))), true⟩
/-! signalbench/signalbenchlaw07.EventClips -/
def Tryd.fn4_r0 : List AIns :=
   [⟨(some 4), .box 30 (.t 1), .none⟩,
    ⟨(some 6), .mov (.c (.bool false)), .none⟩]
def Tryd.fn4_r1 : List AIns :=
   [⟨(some 11), .mov (.t 0), .none⟩,
     ⟨(some 12), .call 16 [(.t 11)], .none⟩,
     ⟨(some 13), .un .not (.t 12), .none⟩]
def Tryd.fn4_r2 : List AIns :=
   [⟨(some 14), .call 9 [], .none⟩,
      ⟨(some 6), .mov (.t 14), .none⟩]
def Tryd.fn4_r3 : List AIns :=
   [⟨(some 16), .mov (.t 0), .none⟩,
    ⟨(some 17), .mov (.t 2), .none⟩,
    ⟨(some 18), .call 17 [(.t 16), (.t 17)], .none⟩,
    ⟨(some 15), .mov (.t 18), .none⟩,
    ⟨(some 19), .ext 0 (.t 15), .none⟩,
    ⟨(some 20), .ext 1 (.t 15), .none⟩,
    ⟨(some 7), .mov (.t 19), .none⟩,
    ⟨(some 8), .mov (.t 20), .none⟩]
def Tryd.fn4_r4 : List AIns :=
   [⟨(some 22), .mov (.t 0), .none⟩,
    ⟨(some 23), .mov (.t 2), .none⟩,
    ⟨(some 24), .call 18 [(.t 22), (.t 23)], .none⟩,
    ⟨(some 21), .mov (.t 24), .none⟩,
    ⟨(some 25), .ext 0 (.t 21), .none⟩,
    ⟨(some 26), .ext 1 (.t 21), .none⟩,
    ⟨(some 9), .mov (.t 25), .none⟩,
    ⟨(some 10), .mov (.t 26), .none⟩]
def Tryd.fn4_r5c : List DIns :=
   ⟨⟨(some 45), .call 9 [], (some (44, true))⟩, [17, 16, 12, 15, 11, 10, 7, 6, 2, 5, 0, 1, 3, 4, 8, 9, 13, 14], [19, 20], 2⟩ ::
   ⟨⟨(some 46), .pick (.t 44) (.t 45) (.c (.bool false)), .none⟩, [17, 18, 16, 12, 15, 11, 10, 7, 6, 2, 5, 0, 1, 3, 4, 8, 9, 13, 14], [20], 0⟩ ::
   ⟨⟨(some 6), .mov (.t 46), .none⟩, [19, 18, 0, 1, 2, 3, 4, 5, 6, 7, 8, 9, 10, 11, 12, 13, 14, 15, 16, 17], [], 0⟩ ::
   []
def Tryd.fn4_r5b : List DIns :=
   ⟨⟨(some 39), .mov (.t 38), .none⟩, [11, 10, 7, 6, 2, 5, 0, 1, 3, 4, 8, 9], [13, 14, 15, 16, 17, 18, 19, 20], 0⟩ ::
   ⟨⟨(some 40), .mov (.t 8), (some (39, true))⟩, [12, 11, 10, 7, 6, 2, 5, 0, 1, 3, 4, 8, 9], [15, 16, 17, 18, 19, 20], 0⟩ ::
   ⟨⟨(some 41), .mov (.t 10), (some (39, true))⟩, [12, 11, 10, 7, 6, 2, 5, 0, 1, 3, 4, 8, 9], [15, 16, 17, 18, 19, 20], 0⟩ ::
   ⟨⟨(some 42), .bin .eql (.t 40) (.t 41), (some (39, true))⟩, [13, 14, 12, 11, 10, 7, 6, 2, 5, 0, 1, 3, 4, 8, 9], [16, 17, 18, 19, 20], 0⟩ ::
   ⟨⟨(some 43), .pick (.t 39) (.t 42) (.c (.bool false)), .none⟩, [12, 15, 11, 10, 7, 6, 2, 5, 0, 1, 3, 4, 8, 9, 13, 14], [17, 18, 19, 20], 0⟩ ::
   ⟨⟨(some 44), .mov (.t 43), .none⟩, [16, 12, 15, 11, 10, 7, 6, 2, 5, 0, 1, 3, 4, 8, 9, 13, 14], [18, 19, 20], 0⟩ ::
   Tryd.fn4_r5c
def Tryd.fn4_r5a : List DIns :=
   ⟨⟨(some 33), .call 19 [(.t 29), (.t 32)], .none⟩, [2, 5, 0, 1, 3, 4], [7, 8, 9, 10, 11, 12, 13, 14, 15, 16, 17, 18, 19, 20], 2⟩ ::
   ⟨⟨(some 34), .mov (.t 33), .none⟩, [6, 2, 5, 0, 1, 3, 4], [8, 9, 10, 11, 12, 13, 14, 15, 16, 17, 18, 19, 20], 0⟩ ::
   ⟨⟨(some 35), .mov (.t 7), (some (34, true))⟩, [7, 6, 2, 5, 0, 1, 3, 4], [10, 11, 12, 13, 14, 15, 16, 17, 18, 19, 20], 0⟩ ::
   ⟨⟨(some 36), .mov (.t 9), (some (34, true))⟩, [7, 6, 2, 5, 0, 1, 3, 4], [10, 11, 12, 13, 14, 15, 16, 17, 18, 19, 20], 0⟩ ::
   ⟨⟨(some 37), .call 19 [(.t 35), (.t 36)], (some (34, true))⟩, [8, 9, 7, 6, 2, 5, 0, 1, 3, 4], [11, 12, 13, 14, 15, 16, 17, 18, 19, 20], 2⟩ ::
   ⟨⟨(some 38), .pick (.t 34) (.t 37) (.c (.bool false)), .none⟩, [7, 10, 6, 2, 5, 0, 1, 3, 4, 8, 9], [12, 13, 14, 15, 16, 17, 18, 19, 20], 0⟩ ::
   Tryd.fn4_r5b
def Tryd.fn4_r5 : List DIns :=
   ⟨⟨(some 27), .mov (.t 0), .none⟩, [], [2, 5, 6, 7, 8, 9, 10, 11, 12, 13, 14, 15, 16, 17, 18, 19, 20], 0⟩ ::
   ⟨⟨(some 28), .ldn 2 (.t 4), .none⟩, [], [2, 5, 6, 7, 8, 9, 10, 11, 12, 13, 14, 15, 16, 17, 18, 19, 20], 1⟩ ::
   ⟨⟨(some 29), .call 20 [(.t 27), (.t 28)], .none⟩, [0, 1], [5, 6, 7, 8, 9, 10, 11, 12, 13, 14, 15, 16, 17, 18, 19, 20], 1⟩ ::
   ⟨⟨(some 30), .mov (.t 0), .none⟩, [], [5, 6, 7, 8, 9, 10, 11, 12, 13, 14, 15, 16, 17, 18, 19, 20], 0⟩ ::
   ⟨⟨(some 31), .ldn 2 (.t 4), .none⟩, [], [5, 6, 7, 8, 9, 10, 11, 12, 13, 14, 15, 16, 17, 18, 19, 20], 1⟩ ::
   ⟨⟨(some 32), .call 21 [(.t 30), (.t 31)], .none⟩, [3, 4, 2, 0, 1], [6, 7, 8, 9, 10, 11, 12, 13, 14, 15, 16, 17, 18, 19, 20], 2⟩ ::
   Tryd.fn4_r5a
def Tryd.fn4 : AFun :=
 ⟨47, [.tmp 6],
 (.seq (.seq (.reg Tryd.fn4_r0)
  (.trim [0, 2, 4]))
 (.seq (.seq (.seq (.reg Tryd.fn4_r1)
   (.trim [0, 2, 4, 13]))
  (.cond (.t 13)
   (.seq (.seq (.reg Tryd.fn4_r2)
    (.trim [6]))
   .ret)
   .skip))
 (.seq (.seq (.reg Tryd.fn4_r3)
  (.trim [0, 2, 4, 7, 8]))
 (.seq (.seq (.reg Tryd.fn4_r4)
  (.trim [0, 4, 7, 8, 9, 10]))
 (.seq (.seq (.regd Tryd.fn4_r5)
  (.trim [6]))
 .ret))))), true⟩
/-! signalbench/signalbenchlaw07.EventLines -/
def Tryd.fn5_r0 : List AIns :=
   [⟨(some 1), .box 23 (.t 0), .none⟩,
    ⟨(some 2), .mov (.c (.bool false)), .none⟩]
def Tryd.fn5_r1 : List AIns :=
   [⟨(some 7), .fa 5 (.t 1), .none⟩,
     ⟨(some 8), .ld1 (.t 7), .none⟩,
     ⟨(some 9), .lens (.t 8), .none⟩,
     ⟨(some 10), .bin .gtr (.t 9) (.c (.int .i64 300)), .none⟩]
def Tryd.fn5_r2 : List AIns :=
   [⟨(some 11), .call 9 [], .none⟩,
      ⟨(some 2), .mov (.t 11), .none⟩]
def Tryd.fn5_r3 : List AIns :=
   [⟨(some 13), .ldn 7 (.t 1), .none⟩,
    ⟨(some 14), .call 22 [(.t 13)], .none⟩,
    ⟨(some 12), .mov (.t 14), .none⟩,
    ⟨(some 15), .ext 0 (.t 12), .none⟩,
    ⟨(some 16), .ext 1 (.t 12), .none⟩,
    ⟨(some 3), .mov (.t 15), .none⟩,
    ⟨(some 4), .mov (.t 16), .none⟩]
def Tryd.fn5_r4 : List AIns :=
   [⟨(some 18), .ldn 7 (.t 1), .none⟩,
    ⟨(some 19), .call 23 [(.t 18)], .none⟩,
    ⟨(some 17), .mov (.t 19), .none⟩,
    ⟨(some 20), .ext 0 (.t 17), .none⟩,
    ⟨(some 21), .ext 1 (.t 17), .none⟩,
    ⟨(some 5), .mov (.t 20), .none⟩,
    ⟨(some 6), .mov (.t 21), .none⟩]
def Tryd.fn5_r5 : List AIns :=
   [⟨(some 22), .mov (.t 3), .none⟩,
     ⟨(some 23), .mov (.t 5), .none⟩,
     ⟨(some 24), .bin .eql (.t 22) (.t 23), .none⟩,
     ⟨(some 25), .mov (.t 24), .none⟩,
     ⟨(some 26), .mov (.t 4), (some (25, true))⟩,
     ⟨(some 27), .mov (.t 6), (some (25, true))⟩,
     ⟨(some 28), .bin .eql (.t 26) (.t 27), (some (25, true))⟩,
     ⟨(some 29), .pick (.t 25) (.t 28) (.c (.bool false)), .none⟩,
     ⟨(some 30), .mov (.t 29), .none⟩,
     ⟨(some 31), .call 9 [], (some (30, true))⟩]
def Tryd.fn5_r6 : List AIns :=
   [⟨(some 32), .pick (.t 30) (.t 31) (.c (.bool false)), .none⟩,
    ⟨(some 2), .mov (.t 32), .none⟩]
def Tryd.fn5 : AFun :=
 ⟨33, [.tmp 2],
 (.seq (.seq (.reg Tryd.fn5_r0)
  (.trim [1]))
 (.seq (.seq (.seq (.reg Tryd.fn5_r1)
   (.trim [1, 10]))
  (.cond (.t 10)
   (.seq (.seq (.reg Tryd.fn5_r2)
    (.trim [2]))
   .ret)
   .skip))
 (.seq (.seq (.reg Tryd.fn5_r3)
  (.trim [1, 3, 4]))
 (.seq (.seq (.reg Tryd.fn5_r4)
  (.trim [3, 4, 5, 6]))
 (.seq (.seq (.seq (.reg Tryd.fn5_r5)
   (.trim [30, 31]))
  (.seq (.reg Tryd.fn5_r6)
  (.trim [2])))
 .ret))))), true⟩
/-! signalbench/signalbenchlaw07.EventParses -/
def Tryd.fn6_r0 : List AIns :=
   [⟨(some 2), .mov (.c (.bool false)), .none⟩]
def Tryd.fn6_r1 : List AIns :=
   [⟨(some 7), .mov (.t 0), .none⟩,
     ⟨(some 8), .lens (.t 7), .none⟩,
     ⟨(some 9), .bin .gtr (.t 8) (.c (.int .i64 400)), .none⟩]
def Tryd.fn6_r2 : List AIns :=
   [⟨(some 10), .call 9 [], .none⟩,
      ⟨(some 2), .mov (.t 10), .none⟩]
def Tryd.fn6_r3 : List AIns :=
   [⟨(some 12), .mov (.t 0), .none⟩,
    ⟨(some 13), .call 24 [(.t 12)], .none⟩,
    ⟨(some 11), .mov (.t 13), .none⟩,
    ⟨(some 14), .ext 0 (.t 11), .none⟩,
    ⟨(some 15), .ext 1 (.t 11), .none⟩,
    ⟨(some 3), .alloc 23 [(.int .i64 0), (.int .i64 0), (.int .i64 0), (.int .i64 0), (.int .i64 0), (.str []), (.int .i64 0)], .none⟩,
    ⟨.none, .st 7 (.t 3) (.t 14), .none⟩,
    ⟨(some 4), .mov (.t 15), .none⟩]
def Tryd.fn6_r4 : List AIns :=
   [⟨(some 17), .mov (.t 0), .none⟩,
    ⟨(some 18), .call 25 [(.t 17)], .none⟩,
    ⟨(some 16), .mov (.t 18), .none⟩,
    ⟨(some 19), .ext 0 (.t 16), .none⟩,
    ⟨(some 20), .ext 1 (.t 16), .none⟩,
    ⟨(some 5), .alloc 23 [(.int .i64 0), (.int .i64 0), (.int .i64 0), (.int .i64 0), (.int .i64 0), (.str []), (.int .i64 0)], .none⟩,
    ⟨.none, .st 7 (.t 5) (.t 19), .none⟩,
    ⟨(some 6), .mov (.t 20), .none⟩]
def Tryd.fn6_r5 : List AIns :=
   [⟨(some 21), .ldn 7 (.t 3), .none⟩,
     ⟨(some 22), .ldn 7 (.t 5), .none⟩,
     ⟨(some 23), .eqv false false (.st [(0, .none, .int), (1, .none, .int), (2, .none, .int), (3, .none, .int), (4, .none, .int), (5, .none, .str), (6, .none, .int)]) (.t 21) (.t 22), .none⟩,
     ⟨(some 24), .mov (.t 23), .none⟩,
     ⟨(some 25), .mov (.t 4), (some (24, true))⟩,
     ⟨(some 26), .mov (.t 6), (some (24, true))⟩,
     ⟨(some 27), .bin .eql (.t 25) (.t 26), (some (24, true))⟩,
     ⟨(some 28), .pick (.t 24) (.t 27) (.c (.bool false)), .none⟩,
     ⟨(some 29), .mov (.t 28), .none⟩,
     ⟨(some 30), .call 9 [], (some (29, true))⟩]
def Tryd.fn6_r6 : List AIns :=
   [⟨(some 31), .pick (.t 29) (.t 30) (.c (.bool false)), .none⟩,
    ⟨(some 2), .mov (.t 31), .none⟩]
def Tryd.fn6 : AFun :=
 ⟨32, [.tmp 2],
 (.seq (.seq (.reg Tryd.fn6_r0)
  (.trim [0]))
 (.seq (.seq (.seq (.reg Tryd.fn6_r1)
   (.trim [0, 9]))
  (.cond (.t 9)
   (.seq (.seq (.reg Tryd.fn6_r2)
    (.trim [2]))
   .ret)
   .skip))
 (.seq (.seq (.reg Tryd.fn6_r3)
  (.trim [0, 3, 4]))
 (.seq (.seq (.reg Tryd.fn6_r4)
  (.trim [3, 4, 5, 6]))
 (.seq (.seq (.seq (.reg Tryd.fn6_r5)
   (.trim [29, 30]))
  (.seq (.reg Tryd.fn6_r6)
  (.trim [2])))
 .ret))))), true⟩
/-! signalbench/signalbenchlaw07.EventRoundTrips -/
def Tryd.fn7_r0 : List AIns :=
   [⟨(some 2), .box 23 (.t 0), .none⟩,
    ⟨(some 4), .mov (.c (.bool false)), .none⟩]
def Tryd.fn7_r1 : List AIns :=
   [⟨(some 12), .fa 5 (.t 2), .none⟩,
     ⟨(some 13), .ld1 (.t 12), .none⟩,
     ⟨(some 14), .lens (.t 13), .none⟩,
     ⟨(some 15), .bin .gtr (.t 14) (.c (.int .i64 300)), .none⟩,
     ⟨(some 16), .mov (.t 15), .none⟩,
     ⟨(some 17), .mov (.t 1), (some (16, false))⟩,
     ⟨(some 18), .lens (.t 17), (some (16, false))⟩,
     ⟨(some 19), .bin .gtr (.t 18) (.c (.int .i64 400)), (some (16, false))⟩,
     ⟨(some 20), .pick (.t 16) (.c (.bool true)) (.t 19), .none⟩]
def Tryd.fn7_r2 : List AIns :=
   [⟨(some 21), .call 9 [], .none⟩,
      ⟨(some 4), .mov (.t 21), .none⟩]
def Tryd.fn7_r3 : List AIns :=
   [⟨(some 23), .ldn 7 (.t 2), .none⟩,
    ⟨(some 24), .call 22 [(.t 23)], .none⟩,
    ⟨(some 22), .mov (.t 24), .none⟩,
    ⟨(some 25), .ext 0 (.t 22), .none⟩,
    ⟨(some 26), .ext 1 (.t 22), .none⟩,
    ⟨(some 5), .mov (.t 25), .none⟩,
    ⟨(some 6), .mov (.t 26), .none⟩]
def Tryd.fn7_r4 : List AIns :=
   [⟨(some 27), .mov (.t 6), .none⟩,
     ⟨(some 28), .bin .eql (.t 27) (.c (.int .i64 0)), .none⟩,
     ⟨(some 29), .ldn 7 (.t 2), .none⟩,
     ⟨(some 30), .call 10 [(.t 29)], .none⟩,
     ⟨(some 31), .eqv true false .bool (.t 28) (.t 30), .none⟩]
def Tryd.fn7_r5 : List AIns :=
   [⟨(some 4), .mov (.c (.bool false)), .none⟩]
def Tryd.fn7_r6 : List AIns :=
   [⟨(some 32), .mov (.t 6), .none⟩,
     ⟨(some 33), .bin .eql (.t 32) (.c (.int .i64 0)), .none⟩]
def Tryd.fn7_r7 : List AIns :=
   [⟨(some 35), .mov (.t 5), .none⟩,
      ⟨(some 36), .call 24 [(.t 35)], .none⟩,
      ⟨(some 34), .mov (.t 36), .none⟩,
      ⟨(some 37), .ext 0 (.t 34), .none⟩,
      ⟨(some 38), .ext 1 (.t 34), .none⟩,
      ⟨(some 7), .alloc 23 [(.int .i64 0), (.int .i64 0), (.int .i64 0), (.int .i64 0), (.int .i64 0), (.str []), (.int .i64 0)], .none⟩,
      ⟨.none, .st 7 (.t 7) (.t 37), .none⟩,
      ⟨(some 8), .mov (.t 38), .none⟩]
def Tryd.fn7_r8 : List AIns :=
   [⟨(some 39), .mov (.t 8), .none⟩,
      ⟨(some 40), .bin .neq (.t 39) (.c (.int .i64 0)), .none⟩,
      ⟨(some 41), .mov (.t 40), .none⟩,
      ⟨(some 42), .ldn 7 (.t 7), (some (41, false))⟩,
      ⟨(some 43), .ldn 7 (.t 2), (some (41, false))⟩,
      ⟨(some 44), .eqv true false (.st [(0, .none, .int), (1, .none, .int), (2, .none, .int), (3, .none, .int), (4, .none, .int), (5, .none, .str), (6, .none, .int)]) (.t 42) (.t 43), (some (41, false))⟩,
      ⟨(some 45), .pick (.t 41) (.c (.bool true)) (.t 44), .none⟩]
def Tryd.fn7_r9 : List AIns :=
   [⟨(some 4), .mov (.c (.bool false)), .none⟩]
def Tryd.fn7_r10 : List AIns :=
   [⟨(some 47), .mov (.t 1), .none⟩,
    ⟨(some 48), .call 24 [(.t 47)], .none⟩,
    ⟨(some 46), .mov (.t 48), .none⟩,
    ⟨(some 49), .ext 0 (.t 46), .none⟩,
    ⟨(some 50), .ext 1 (.t 46), .none⟩,
    ⟨(some 9), .alloc 23 [(.int .i64 0), (.int .i64 0), (.int .i64 0), (.int .i64 0), (.int .i64 0), (.str []), (.int .i64 0)], .none⟩,
    ⟨.none, .st 7 (.t 9) (.t 49), .none⟩,
    ⟨(some 6), .mov (.t 50), .none⟩]
def Tryd.fn7_r11 : List AIns :=
   [⟨(some 51), .mov (.t 6), .none⟩,
     ⟨(some 52), .bin .neq (.t 51) (.c (.int .i64 0)), .none⟩]
def Tryd.fn7_r12 : List AIns :=
   [⟨(some 53), .call 9 [], .none⟩,
      ⟨(some 4), .mov (.t 53), .none⟩]
def Tryd.fn7_r13 : List AIns :=
   [⟨(some 55), .ldn 7 (.t 9), .none⟩,
    ⟨(some 56), .call 22 [(.t 55)], .none⟩,
    ⟨(some 54), .mov (.t 56), .none⟩,
    ⟨(some 57), .ext 0 (.t 54), .none⟩,
    ⟨(some 58), .ext 1 (.t 54), .none⟩,
    ⟨(some 10), .mov (.t 57), .none⟩,
    ⟨(some 11), .mov (.t 58), .none⟩]
def Tryd.fn7_r14 : List AIns :=
   [⟨(some 59), .mov (.t 11), .none⟩,
     ⟨(some 60), .bin .eql (.t 59) (.c (.int .i64 0)), .none⟩,
     ⟨(some 61), .mov (.t 60), .none⟩,
     ⟨(some 62), .mov (.t 10), (some (61, true))⟩,
     ⟨(some 63), .mov (.t 1), (some (61, true))⟩,
     ⟨(some 64), .bin .eql (.t 62) (.t 63), (some (61, true))⟩,
     ⟨(some 65), .pick (.t 61) (.t 64) (.c (.bool false)), .none⟩,
     ⟨(some 66), .mov (.t 65), .none⟩,
     ⟨(some 67), .call 9 [], (some (66, true))⟩,
     ⟨(some 68), .pick (.t 66) (.t 67) (.c (.bool false)), .none⟩]
def Tryd.fn7_r15 : List AIns :=
   [⟨(some 4), .mov (.t 68), .none⟩]
def Tryd.fn7 : AFun :=
 ⟨69, [.tmp 4],
 (.seq (.seq (.reg Tryd.fn7_r0)
  (.trim [1, 2]))
 (.seq (.seq (.seq (.reg Tryd.fn7_r1)
   (.trim [1, 2, 20]))
  (.cond (.t 20)
   (.seq (.seq (.reg Tryd.fn7_r2)
    (.trim [4]))
   .ret)
   .skip))
 (.seq (.seq (.reg Tryd.fn7_r3)
  (.trim [1, 2, 5, 6]))
 (.seq (.seq (.seq (.reg Tryd.fn7_r4)
   (.trim [1, 2, 5, 6, 31]))
  (.cond (.t 31)
   (.seq (.seq (.reg Tryd.fn7_r5)
    (.trim [4]))
   .ret)
   .skip))
 (.seq (.seq (.seq (.reg Tryd.fn7_r6)
   (.trim [1, 2, 5, 33]))
  (.cond (.t 33)
   (.seq (.seq (.reg Tryd.fn7_r7)
    (.trim [1, 2, 7, 8]))
   (.seq (.seq (.reg Tryd.fn7_r8)
    (.trim [1, 45]))
   (.cond (.t 45)
    (.seq (.seq (.reg Tryd.fn7_r9)
     (.trim [4]))
    .ret)
    .skip)))
   .skip))
 (.seq (.seq (.reg Tryd.fn7_r10)
  (.trim [1, 6, 9]))
 (.seq (.seq (.seq (.reg Tryd.fn7_r11)
   (.trim [1, 9, 52]))
  (.cond (.t 52)
   (.seq (.seq (.reg Tryd.fn7_r12)
    (.trim [4]))
   .ret)
   .skip))
 (.seq (.seq (.reg Tryd.fn7_r13)
  (.trim [1, 10, 11]))
 (.seq (.seq (.seq (.reg Tryd.fn7_r14)
   (.trim [68]))
  (.seq (.reg Tryd.fn7_r15)
  (.trim [4])))
 .ret))))))))), true⟩
/-! signalbench/signalbenchlaw07.EventShifts -/
def Tryd.fn8_r0 : List AIns :=
   [⟨(some 4), .mov (.c (.bool false)), .none⟩]
def Tryd.fn8_r1 : List AIns :=
   [⟨(some 10), .mov (.t 0), .none⟩,
     ⟨(some 11), .call 16 [(.t 10)], .none⟩,
     ⟨(some 12), .un .not (.t 11), .none⟩]
def Tryd.fn8_r2 : List AIns :=
   [⟨(some 13), .call 9 [], .none⟩,
      ⟨(some 4), .mov (.t 13), .none⟩]
def Tryd.fn8_r3 : List AIns :=
   [⟨(some 15), .mov (.t 0), .none⟩,
    ⟨(some 16), .mov (.t 1), .none⟩,
    ⟨(some 17), .call 17 [(.t 15), (.t 16)], .none⟩,
    ⟨(some 14), .mov (.t 17), .none⟩,
    ⟨(some 18), .ext 0 (.t 14), .none⟩,
    ⟨(some 19), .ext 1 (.t 14), .none⟩,
    ⟨(some 5), .mov (.t 18), .none⟩,
    ⟨(some 6), .mov (.t 19), .none⟩]
def Tryd.fn8_r4 : List AIns :=
   [⟨(some 20), .mov (.t 6), .none⟩,
     ⟨(some 21), .bin .neq (.t 20) (.c (.int .i64 0)), .none⟩]
def Tryd.fn8_r5 : List AIns :=
   [⟨(some 22), .mov (.t 5), .none⟩,
      ⟨(some 23), .lenl (.t 22), .none⟩,
      ⟨(some 24), .bin .eql (.t 23) (.c (.int .i64 0)), .none⟩,
      ⟨(some 25), .mov (.t 24), .none⟩,
      ⟨(some 26), .call 9 [], (some (25, true))⟩,
      ⟨(some 27), .pick (.t 25) (.t 26) (.c (.bool false)), .none⟩,
      ⟨(some 4), .mov (.t 27), .none⟩]
def Tryd.fn8_r6 : List AIns :=
   [⟨(some 28), .mov (.t 5), .none⟩,
      ⟨(some 29), .lenl (.t 28), .none⟩,
      ⟨(some 30), .mov (.t 0), .none⟩,
      ⟨(some 31), .lenl (.t 30), .none⟩,
      ⟨(some 32), .bin .neq (.t 29) (.t 31), .none⟩,
      ⟨(some 33), .mov (.t 32), .none⟩,
      ⟨(some 34), .mov (.t 0), (some (33, false))⟩,
      ⟨(some 35), .lenl (.t 34), (some (33, false))⟩,
      ⟨(some 36), .bin .gtr (.t 35) (.c (.int .i64 0)), (some (33, false))⟩,
      ⟨(some 37), .mov (.t 36), (some (33, false))⟩]
def Tryd.fn8_r7 : List AIns :=
   [⟨(some 38), .mov (.t 1), (some (37, true))⟩,
     ⟨(some 39), .bin .lss (.t 38) (.c (.int .i64 (-1099511627776))), (some (37, true))⟩,
     ⟨(some 40), .mov (.t 39), (some (37, true))⟩,
     ⟨(some 41), .mov (.t 1), (some (40, false))⟩,
     ⟨(some 42), .bin .gtr (.t 41) (.c (.int .i64 1099511627776)), (some (40, false))⟩,
     ⟨(some 43), .pick (.t 40) (.c (.bool true)) (.t 42), (some (37, true))⟩,
     ⟨(some 44), .pick (.t 37) (.t 43) (.c (.bool false)), (some (33, false))⟩,
     ⟨(some 45), .pick (.t 33) (.c (.bool true)) (.t 44), .none⟩]
def Tryd.fn8_r8 : List AIns :=
   [⟨(some 4), .mov (.c (.bool false)), .none⟩]
def Tryd.fn8_r9 : List AIns :=
   [⟨(some 7), .mov (.c (.int .i64 0)), .none⟩]
def Tryd.fn8_r10 : List AIns :=
   [⟨(some 46), .mov (.t 7), .none⟩,
        ⟨(some 47), .mov (.t 0), .none⟩,
        ⟨(some 48), .lenl (.t 47), .none⟩,
        ⟨(some 49), .bin .lss (.t 46) (.t 48), .none⟩]
def Tryd.fn8_r11f : List DIns :=
   ⟨⟨(some 88), .ia 7 (.t 86) (.t 87), (some (78, false))⟩, [34, 35, 26, 25, 11, 24, 10, 9, 4, 3, 2, 0, 1, 8, 7, 5, 6, 18, 23, 16, 17, 15, 14, 12, 13, 22, 21, 19, 20], [37, 38, 39, 40], 0⟩ ::
   ⟨⟨(some 89), .fa 2 (.t 88), (some (78, false))⟩, [36, 26, 34, 35, 25, 11, 24, 10, 9, 4, 3, 2, 0, 1, 8, 7, 5, 6, 18, 23, 16, 17, 15, 14, 12, 13, 22, 21, 19, 20], [38, 39, 40], 0⟩ ::
   ⟨⟨(some 90), .ld1 (.t 89), (some (78, false))⟩, [37, 26, 36, 34, 35, 25, 11, 24, 10, 9, 4, 3, 2, 0, 1, 8, 7, 5, 6, 18, 23, 16, 17, 15, 14, 12, 13, 22, 21, 19, 20], [39, 40], 1⟩ ::
   ⟨⟨(some 91), .bin .neq (.t 85) (.t 90), (some (78, false))⟩, [33, 38, 26, 31, 32, 30, 29, 27, 28, 25, 11, 24, 10, 9, 4, 3, 2, 0, 1, 8, 7, 5, 6, 18, 23, 16, 17, 15, 14, 12, 13, 22, 21, 19, 20, 37, 36, 34, 35], [40], 0⟩ ::
   ⟨⟨(some 92), .pick (.t 78) (.c (.bool true)) (.t 91), .none⟩, [26, 39, 25, 11, 24, 10, 9, 4, 3, 2, 0, 1, 8, 7, 5, 6, 18, 23, 16, 17, 15, 14, 12, 13, 22, 21, 19, 20, 33, 38, 31, 32, 30, 29, 27, 28, 37, 36, 34, 35], [], 0⟩ ::
   []
def Tryd.fn8_r11e : List DIns :=
   ⟨⟨(some 82), .fa 2 (.t 81), (some (78, false))⟩, [29, 26, 27, 28, 25, 11, 24, 10, 9, 4, 3, 2, 0, 1, 8, 7, 5, 6, 18, 23, 16, 17, 15, 14, 12, 13, 22, 21, 19, 20], [31, 33, 39, 40], 0⟩ ::
   ⟨⟨(some 83), .ld1 (.t 82), (some (78, false))⟩, [30, 26, 29, 27, 28, 25, 11, 24, 10, 9, 4, 3, 2, 0, 1, 8, 7, 5, 6, 18, 23, 16, 17, 15, 14, 12, 13, 22, 21, 19, 20], [33, 39, 40], 1⟩ ::
   ⟨⟨(some 84), .mov (.t 1), (some (78, false))⟩, [26, 25, 11, 24, 10, 9, 4, 3, 2, 0, 1, 8, 7, 5, 6, 18, 23, 16, 17, 15, 14, 12, 13, 22, 21, 19, 20], [33, 39, 40], 0⟩ ::
   ⟨⟨(some 85), .bin .sub (.t 83) (.t 84), (some (78, false))⟩, [31, 32, 26, 30, 29, 27, 28, 25, 11, 24, 10, 9, 4, 3, 2, 0, 1, 8, 7, 5, 6, 18, 23, 16, 17, 15, 14, 12, 13, 22, 21, 19, 20], [39, 40], 0⟩ ::
   ⟨⟨(some 86), .mov (.t 0), (some (78, false))⟩, [26, 25, 11, 24, 10, 9, 4, 3, 2, 0, 1, 8, 7, 5, 6, 18, 23, 16, 17, 15, 14, 12, 13, 22, 21, 19, 20], [36, 37, 38, 39, 40], 0⟩ ::
   ⟨⟨(some 87), .mov (.t 7), (some (78, false))⟩, [26, 25, 11, 24, 10, 9, 4, 3, 2, 0, 1, 8, 7, 5, 6, 18, 23, 16, 17, 15, 14, 12, 13, 22, 21, 19, 20], [36, 37, 38, 39, 40], 0⟩ ::
   Tryd.fn8_r11f
def Tryd.fn8_r11d : List DIns :=
   ⟨⟨(some 76), .bin .neq (.t 70) (.t 75), (some (63, false))⟩, [18, 23, 11, 16, 17, 15, 14, 12, 13, 10, 9, 4, 3, 2, 0, 1, 8, 7, 5, 6, 22, 21, 19, 20], [25, 26, 27, 28, 29, 30, 31, 32, 33, 34, 35, 36, 37, 38, 39, 40], 0⟩ ::
   ⟨⟨(some 77), .pick (.t 63) (.c (.bool true)) (.t 76), .none⟩, [11, 24, 10, 9, 4, 3, 2, 0, 1, 8, 7, 5, 6, 18, 23, 16, 17, 15, 14, 12, 13, 22, 21, 19, 20], [26, 27, 28, 29, 30, 31, 32, 33, 34, 35, 36, 37, 38, 39, 40], 0⟩ ::
   ⟨⟨(some 78), .mov (.t 77), .none⟩, [25, 11, 24, 10, 9, 4, 3, 2, 0, 1, 8, 7, 5, 6, 18, 23, 16, 17, 15, 14, 12, 13, 22, 21, 19, 20], [27, 28, 29, 30, 31, 32, 33, 34, 35, 36, 37, 38, 39, 40], 0⟩ ::
   ⟨⟨(some 79), .mov (.t 5), (some (78, false))⟩, [26, 25, 11, 24, 10, 9, 4, 3, 2, 0, 1, 8, 7, 5, 6, 18, 23, 16, 17, 15, 14, 12, 13, 22, 21, 19, 20], [29, 30, 31, 33, 39, 40], 0⟩ ::
   ⟨⟨(some 80), .mov (.t 7), (some (78, false))⟩, [26, 25, 11, 24, 10, 9, 4, 3, 2, 0, 1, 8, 7, 5, 6, 18, 23, 16, 17, 15, 14, 12, 13, 22, 21, 19, 20], [29, 30, 31, 33, 39, 40], 0⟩ ::
   ⟨⟨(some 81), .ia 7 (.t 79) (.t 80), (some (78, false))⟩, [27, 28, 26, 25, 11, 24, 10, 9, 4, 3, 2, 0, 1, 8, 7, 5, 6, 18, 23, 16, 17, 15, 14, 12, 13, 22, 21, 19, 20], [30, 31, 33, 39, 40], 0⟩ ::
   Tryd.fn8_r11e
def Tryd.fn8_r11c : List DIns :=
   ⟨⟨(some 70), .bin .sub (.t 68) (.t 69), (some (63, false))⟩, [16, 17, 11, 15, 14, 12, 13, 10, 9, 4, 3, 2, 0, 1, 8, 7, 5, 6], [24, 25, 26, 27, 28, 29, 30, 31, 32, 33, 34, 35, 36, 37, 38, 39, 40], 0⟩ ::
   ⟨⟨(some 71), .mov (.t 0), (some (63, false))⟩, [11, 10, 9, 4, 3, 2, 0, 1, 8, 7, 5, 6], [21, 22, 23, 24, 25, 26, 27, 28, 29, 30, 31, 32, 33, 34, 35, 36, 37, 38, 39, 40], 0⟩ ::
   ⟨⟨(some 72), .mov (.t 7), (some (63, false))⟩, [11, 10, 9, 4, 3, 2, 0, 1, 8, 7, 5, 6], [21, 22, 23, 24, 25, 26, 27, 28, 29, 30, 31, 32, 33, 34, 35, 36, 37, 38, 39, 40], 0⟩ ::
   ⟨⟨(some 73), .ia 7 (.t 71) (.t 72), (some (63, false))⟩, [19, 20, 11, 10, 9, 4, 3, 2, 0, 1, 8, 7, 5, 6], [22, 23, 24, 25, 26, 27, 28, 29, 30, 31, 32, 33, 34, 35, 36, 37, 38, 39, 40], 0⟩ ::
   ⟨⟨(some 74), .fa 1 (.t 73), (some (63, false))⟩, [21, 11, 19, 20, 10, 9, 4, 3, 2, 0, 1, 8, 7, 5, 6], [23, 24, 25, 26, 27, 28, 29, 30, 31, 32, 33, 34, 35, 36, 37, 38, 39, 40], 0⟩ ::
   ⟨⟨(some 75), .ld1 (.t 74), (some (63, false))⟩, [22, 11, 21, 19, 20, 10, 9, 4, 3, 2, 0, 1, 8, 7, 5, 6], [24, 25, 26, 27, 28, 29, 30, 31, 32, 33, 34, 35, 36, 37, 38, 39, 40], 1⟩ ::
   Tryd.fn8_r11d
def Tryd.fn8_r11b : List DIns :=
   ⟨⟨(some 64), .mov (.t 5), (some (63, false))⟩, [11, 10, 9, 4, 3, 2, 0, 1, 8, 7, 5, 6], [14, 15, 16, 18, 24, 25, 26, 27, 28, 29, 30, 31, 32, 33, 34, 35, 36, 37, 38, 39, 40], 0⟩ ::
   ⟨⟨(some 65), .mov (.t 7), (some (63, false))⟩, [11, 10, 9, 4, 3, 2, 0, 1, 8, 7, 5, 6], [14, 15, 16, 18, 24, 25, 26, 27, 28, 29, 30, 31, 32, 33, 34, 35, 36, 37, 38, 39, 40], 0⟩ ::
   ⟨⟨(some 66), .ia 7 (.t 64) (.t 65), (some (63, false))⟩, [12, 13, 11, 10, 9, 4, 3, 2, 0, 1, 8, 7, 5, 6], [15, 16, 18, 24, 25, 26, 27, 28, 29, 30, 31, 32, 33, 34, 35, 36, 37, 38, 39, 40], 0⟩ ::
   ⟨⟨(some 67), .fa 1 (.t 66), (some (63, false))⟩, [14, 11, 12, 13, 10, 9, 4, 3, 2, 0, 1, 8, 7, 5, 6], [16, 18, 24, 25, 26, 27, 28, 29, 30, 31, 32, 33, 34, 35, 36, 37, 38, 39, 40], 0⟩ ::
   ⟨⟨(some 68), .ld1 (.t 67), (some (63, false))⟩, [15, 11, 14, 12, 13, 10, 9, 4, 3, 2, 0, 1, 8, 7, 5, 6], [18, 24, 25, 26, 27, 28, 29, 30, 31, 32, 33, 34, 35, 36, 37, 38, 39, 40], 1⟩ ::
   ⟨⟨(some 69), .mov (.t 1), (some (63, false))⟩, [11, 10, 9, 4, 3, 2, 0, 1, 8, 7, 5, 6], [18, 24, 25, 26, 27, 28, 29, 30, 31, 32, 33, 34, 35, 36, 37, 38, 39, 40], 0⟩ ::
   Tryd.fn8_r11c
def Tryd.fn8_r11a : List DIns :=
   ⟨⟨(some 58), .mov (.t 7), .none⟩, [], [7, 8, 9, 10, 11, 12, 13, 14, 15, 16, 17, 18, 19, 20, 21, 22, 23, 24, 25, 26, 27, 28, 29, 30, 31, 32, 33, 34, 35, 36, 37, 38, 39, 40], 0⟩ ::
   ⟨⟨(some 59), .ia 7 (.t 57) (.t 58), .none⟩, [5, 6], [8, 9, 10, 11, 12, 13, 14, 15, 16, 17, 18, 19, 20, 21, 22, 23, 24, 25, 26, 27, 28, 29, 30, 31, 32, 33, 34, 35, 36, 37, 38, 39, 40], 0⟩ ::
   ⟨⟨(some 60), .ldn 7 (.t 59), .none⟩, [7, 5, 6], [9, 10, 11, 12, 13, 14, 15, 16, 17, 18, 19, 20, 21, 22, 23, 24, 25, 26, 27, 28, 29, 30, 31, 32, 33, 34, 35, 36, 37, 38, 39, 40], 1⟩ ::
   ⟨⟨(some 61), .call 14 [(.t 60)], .none⟩, [8, 4, 7, 5, 6, 3, 2, 0, 1], [10, 11, 12, 13, 14, 15, 16, 17, 18, 19, 20, 21, 22, 23, 24, 25, 26, 27, 28, 29, 30, 31, 32, 33, 34, 35, 36, 37, 38, 39, 40], 2⟩ ::
   ⟨⟨(some 62), .eqv true false (.st [(0, .none, .int), (1, .none, .int), (2, .none, .int), (3, .none, .int), (4, .none, .int), (5, .none, .str), (6, .none, .int)]) (.t 56) (.t 61), .none⟩, [4, 9, 3, 2, 0, 1, 8, 7, 5, 6], [11, 12, 13, 14, 15, 16, 17, 18, 19, 20, 21, 22, 23, 24, 25, 26, 27, 28, 29, 30, 31, 32, 33, 34, 35, 36, 37, 38, 39, 40], 0⟩ ::
   ⟨⟨(some 63), .mov (.t 62), .none⟩, [10, 9, 4, 3, 2, 0, 1, 8, 7, 5, 6], [12, 13, 14, 15, 16, 17, 18, 19, 20, 21, 22, 23, 24, 25, 26, 27, 28, 29, 30, 31, 32, 33, 34, 35, 36, 37, 38, 39, 40], 0⟩ ::
   Tryd.fn8_r11b
def Tryd.fn8_r11 : List DIns :=
   ⟨⟨(some 52), .mov (.t 5), .none⟩, [], [2, 3, 4, 9, 10, 11, 12, 13, 14, 15, 16, 17, 18, 19, 20, 21, 22, 23, 24, 25, 26, 27, 28, 29, 30, 31, 32, 33, 34, 35, 36, 37, 38, 39, 40], 0⟩ ::
   ⟨⟨(some 53), .mov (.t 7), .none⟩, [], [2, 3, 4, 9, 10, 11, 12, 13, 14, 15, 16, 17, 18, 19, 20, 21, 22, 23, 24, 25, 26, 27, 28, 29, 30, 31, 32, 33, 34, 35, 36, 37, 38, 39, 40], 0⟩ ::
   ⟨⟨(some 54), .ia 7 (.t 52) (.t 53), .none⟩, [0, 1], [3, 4, 9, 10, 11, 12, 13, 14, 15, 16, 17, 18, 19, 20, 21, 22, 23, 24, 25, 26, 27, 28, 29, 30, 31, 32, 33, 34, 35, 36, 37, 38, 39, 40], 0⟩ ::
   ⟨⟨(some 55), .ldn 7 (.t 54), .none⟩, [2, 0, 1], [4, 9, 10, 11, 12, 13, 14, 15, 16, 17, 18, 19, 20, 21, 22, 23, 24, 25, 26, 27, 28, 29, 30, 31, 32, 33, 34, 35, 36, 37, 38, 39, 40], 1⟩ ::
   ⟨⟨(some 56), .call 14 [(.t 55)], .none⟩, [3, 2, 0, 1], [9, 10, 11, 12, 13, 14, 15, 16, 17, 18, 19, 20, 21, 22, 23, 24, 25, 26, 27, 28, 29, 30, 31, 32, 33, 34, 35, 36, 37, 38, 39, 40], 1⟩ ::
   ⟨⟨(some 57), .mov (.t 0), .none⟩, [], [7, 8, 9, 10, 11, 12, 13, 14, 15, 16, 17, 18, 19, 20, 21, 22, 23, 24, 25, 26, 27, 28, 29, 30, 31, 32, 33, 34, 35, 36, 37, 38, 39, 40], 0⟩ ::
   Tryd.fn8_r11a
def Tryd.fn8_r12 : List AIns :=
   [⟨(some 4), .mov (.c (.bool false)), .none⟩]
def Tryd.fn8_r13 : List AIns :=
   [⟨(some 50), .mov (.t 7), .none⟩,
      ⟨(some 51), .bin .add (.t 50) (.c (.int .i64 1)), .none⟩,
      ⟨(some 7), .mov (.t 51), .none⟩]
def Tryd.fn8_r14 : List AIns :=
   [⟨(some 93), .mov (.t 0), .none⟩,
     ⟨(some 94), .lenl (.t 93), .none⟩,
     ⟨(some 95), .bin .eql (.t 94) (.c (.int .i64 0)), .none⟩]
def Tryd.fn8_r15 : List AIns :=
   [⟨(some 96), .call 9 [], .none⟩,
      ⟨(some 4), .mov (.t 96), .none⟩]
def Tryd.fn8_r16 : List AIns :=
   [⟨(some 98), .mov (.t 5), .none⟩,
    ⟨(some 99), .mov (.t 1), .none⟩,
    ⟨(some 100), .un .neg (.t 99), .none⟩,
    ⟨(some 101), .call 17 [(.t 98), (.t 100)], .none⟩,
    ⟨(some 97), .mov (.t 101), .none⟩,
    ⟨(some 102), .ext 0 (.t 97), .none⟩,
    ⟨(some 103), .ext 1 (.t 97), .none⟩,
    ⟨(some 8), .mov (.t 102), .none⟩,
    ⟨(some 9), .mov (.t 103), .none⟩]
def Tryd.fn8_r17 : List AIns :=
   [⟨(some 104), .mov (.t 9), .none⟩,
     ⟨(some 105), .bin .eql (.t 104) (.c (.int .i64 0)), .none⟩,
     ⟨(some 106), .mov (.t 105), .none⟩,
     ⟨(some 107), .mov (.t 8), (some (106, true))⟩,
     ⟨(some 108), .mov (.t 0), (some (106, true))⟩,
     ⟨(some 109), .call 19 [(.t 107), (.t 108)], (some (106, true))⟩,
     ⟨(some 110), .pick (.t 106) (.t 109) (.c (.bool false)), .none⟩,
     ⟨(some 111), .mov (.t 110), .none⟩,
     ⟨(some 112), .call 9 [], (some (111, true))⟩,
     ⟨(some 113), .pick (.t 111) (.t 112) (.c (.bool false)), .none⟩]
def Tryd.fn8_r18 : List AIns :=
   [⟨(some 4), .mov (.t 113), .none⟩]
def Tryd.fn8_l0 : ACode :=
 (.seq (.seq (.seq (.reg Tryd.fn8_r10)
      (.trim [0, 1, 5, 7, 49]))
     (.cond (.t 49)
      .skip
      (.exit 0)))
    (.seq (.block 1
      (.seq (.seq (.regd Tryd.fn8_r11)
       (.trim [0, 1, 5, 7, 92]))
      (.cond (.t 92)
       (.seq (.seq (.reg Tryd.fn8_r12)
        (.trim [4]))
       .ret)
       .skip)))
    (.seq (.reg Tryd.fn8_r13)
    (.trim [0, 1, 5, 7]))))
def Tryd.fn8 : AFun :=
 ⟨114, [.tmp 4],
 (.seq (.seq (.reg Tryd.fn8_r0)
  (.trim [0, 1]))
 (.seq (.seq (.seq (.reg Tryd.fn8_r1)
   (.trim [0, 1, 12]))
  (.cond (.t 12)
   (.seq (.seq (.reg Tryd.fn8_r2)
    (.trim [4]))
   .ret)
   .skip))
 (.seq (.seq (.reg Tryd.fn8_r3)
  (.trim [0, 1, 5, 6]))
 (.seq (.seq (.seq (.reg Tryd.fn8_r4)
   (.trim [0, 1, 5, 21]))
  (.cond (.t 21)
   (.seq (.seq (.reg Tryd.fn8_r5)
    (.trim [4]))
   .ret)
   .skip))
 (.seq (.seq (.seq (.seq (.reg Tryd.fn8_r6)
    (.trim [0, 1, 5, 33, 37]))
   (.seq (.reg Tryd.fn8_r7)
   (.trim [0, 1, 5, 45])))
  (.cond (.t 45)
   (.seq (.seq (.reg Tryd.fn8_r8)
    (.trim [4]))
   .ret)
   .skip))
 (.seq (.seq (.seq (.reg Tryd.fn8_r9)
   (.trim [0, 1, 5, 7]))
  (.block 0
   (.loop (some [0, 1, 5, 7])
    Tryd.fn8_l0)))
 (.seq (.seq (.seq (.reg Tryd.fn8_r14)
   (.trim [0, 1, 5, 95]))
  (.cond (.t 95)
   (.seq (.seq (.reg Tryd.fn8_r15)
    (.trim [4]))
   .ret)
   .skip))
 (.seq (.seq (.reg Tryd.fn8_r16)
  (.trim [0, 8, 9]))
 (.seq (.seq (.seq (.reg Tryd.fn8_r17)
   (.trim [113]))
  (.seq (.reg Tryd.fn8_r18)
  (.trim [4])))
 .ret))))))))), true⟩
/-! signalbench/signalbenchlaw07.awake -/
def Tryd.fn9_r0 : List AIns :=
   [⟨(some 0), .mov (.c (.bool false)), .none⟩]
def Tryd.fn9_r1 : List AIns :=
   [⟨(some 10), .bld [(.int .i64 0), (.int .i64 0), (.int .i64 0), (.int .i64 0), (.int .i64 0), (.str []), (.int .i64 0)] [(0, 1, (.c (.int .i64 3))), (1, 1, (.c (.int .i64 10))), (2, 1, (.c (.int .i64 20))), (3, 1, (.c (.int .i64 65)))], .none⟩,
    ⟨(some 1), .alloc 23 [(.int .i64 0), (.int .i64 0), (.int .i64 0), (.int .i64 0), (.int .i64 0), (.str []), (.int .i64 0)], .none⟩,
    ⟨.none, .st 7 (.t 1) (.t 10), .none⟩]
def Tryd.fn9_r2 : List AIns :=
   [⟨(some 12), .ldn 7 (.t 1), .none⟩,
    ⟨(some 13), .call 22 [(.t 12)], .none⟩,
    ⟨(some 11), .mov (.t 13), .none⟩,
    ⟨(some 14), .ext 0 (.t 11), .none⟩,
    ⟨(some 15), .ext 1 (.t 11), .none⟩,
    ⟨(some 2), .mov (.t 14), .none⟩,
    ⟨(some 3), .mov (.t 15), .none⟩]
def Tryd.fn9_r3 : List AIns :=
   [⟨(some 17), .mov (.t 2), .none⟩,
    ⟨(some 18), .call 24 [(.t 17)], .none⟩,
    ⟨(some 16), .mov (.t 18), .none⟩,
    ⟨(some 19), .ext 0 (.t 16), .none⟩,
    ⟨(some 20), .ext 1 (.t 16), .none⟩,
    ⟨(some 4), .alloc 23 [(.int .i64 0), (.int .i64 0), (.int .i64 0), (.int .i64 0), (.int .i64 0), (.str []), (.int .i64 0)], .none⟩,
    ⟨.none, .st 7 (.t 4) (.t 19), .none⟩,
    ⟨(some 5), .mov (.t 20), .none⟩]
def Tryd.fn9_r4 : List AIns :=
   [⟨(some 22), .call 24 [(.c (.str [98, 105, 116, 32, 48, 32, 49, 32, 48, 49, 32, 48, 32, 48, 32, 34, 34]))], .none⟩,
    ⟨(some 21), .mov (.t 22), .none⟩,
    ⟨(some 23), .ext 0 (.t 21), .none⟩,
    ⟨(some 24), .ext 1 (.t 21), .none⟩,
    ⟨(some 6), .alloc 23 [(.int .i64 0), (.int .i64 0), (.int .i64 0), (.int .i64 0), (.int .i64 0), (.str []), (.int .i64 0)], .none⟩,
    ⟨.none, .st 7 (.t 6) (.t 23), .none⟩,
    ⟨(some 7), .mov (.t 24), .none⟩]
def Tryd.fn9_r5 : List AIns :=
   [⟨(some 26), .ldn 7 (.t 1), .none⟩,
    ⟨(some 27), .bsl 23 7 1 [(.int .i64 0), (.int .i64 0), (.int .i64 0), (.int .i64 0), (.int .i64 0), (.str []), (.int .i64 0)] [(0, 7, (.t 26))], .none⟩,
    ⟨(some 28), .call 17 [(.t 27), (.c (.int .i64 5))], .none⟩,
    ⟨(some 25), .mov (.t 28), .none⟩,
    ⟨(some 29), .ext 0 (.t 25), .none⟩,
    ⟨(some 30), .ext 1 (.t 25), .none⟩,
    ⟨(some 8), .mov (.t 29), .none⟩,
    ⟨(some 9), .mov (.t 30), .none⟩]
def Tryd.fn9_r6 : List AIns :=
   [⟨(some 31), .mov (.t 3), .none⟩,
      ⟨(some 32), .bin .neq (.t 31) (.c (.int .i64 0)), .none⟩,
      ⟨(some 33), .mov (.t 32), .none⟩,
      ⟨(some 34), .mov (.t 5), (some (33, false))⟩,
      ⟨(some 35), .bin .neq (.t 34) (.c (.int .i64 0)), (some (33, false))⟩,
      ⟨(some 36), .pick (.t 33) (.c (.bool true)) (.t 35), .none⟩,
      ⟨(some 37), .mov (.t 36), .none⟩,
      ⟨(some 38), .mov (.t 7), (some (37, false))⟩,
      ⟨(some 39), .bin .neq (.t 38) (.c (.int .i64 4)), (some (37, false))⟩,
      ⟨(some 40), .pick (.t 37) (.c (.bool true)) (.t 39), .none⟩]
def Tryd.fn9_r7 : List AIns :=
   [⟨(some 41), .mov (.t 40), .none⟩,
      ⟨(some 42), .mov (.t 9), (some (41, false))⟩,
      ⟨(some 43), .bin .neq (.t 42) (.c (.int .i64 0)), (some (41, false))⟩,
      ⟨(some 44), .pick (.t 41) (.c (.bool true)) (.t 43), .none⟩,
      ⟨(some 45), .mov (.t 44), .none⟩,
      ⟨(some 46), .mov (.t 8), (some (45, false))⟩,
      ⟨(some 47), .lenl (.t 46), (some (45, false))⟩,
      ⟨(some 48), .bin .neq (.t 47) (.c (.int .i64 1)), (some (45, false))⟩,
      ⟨(some 49), .pick (.t 45) (.c (.bool true)) (.t 48), .none⟩,
      ⟨(some 50), .mov (.t 49), .none⟩]
def Tryd.fn9_r8 : List AIns :=
   [⟨(some 51), .mov (.t 8), (some (50, false))⟩,
      ⟨(some 52), .ia 7 (.t 51) (.c (.int .i64 0)), (some (50, false))⟩,
      ⟨(some 53), .fa 1 (.t 52), (some (50, false))⟩,
      ⟨(some 54), .ld1 (.t 53), (some (50, false))⟩,
      ⟨(some 55), .bin .neq (.t 54) (.c (.int .i64 15)), (some (50, false))⟩,
      ⟨(some 56), .pick (.t 50) (.c (.bool true)) (.t 55), .none⟩,
      ⟨(some 57), .mov (.t 56), .none⟩,
      ⟨(some 58), .mov (.t 8), (some (57, false))⟩,
      ⟨(some 59), .ia 7 (.t 58) (.c (.int .i64 0)), (some (57, false))⟩,
      ⟨(some 60), .fa 2 (.t 59), (some (57, false))⟩]
def Tryd.fn9_r9 : List AIns :=
   [⟨(some 61), .ld1 (.t 60), (some (57, false))⟩,
     ⟨(some 62), .bin .neq (.t 61) (.c (.int .i64 25)), (some (57, false))⟩,
     ⟨(some 63), .pick (.t 57) (.c (.bool true)) (.t 62), .none⟩]
def Tryd.fn9_r10 : List AIns :=
   [⟨(some 0), .mov (.c (.bool false)), .none⟩]
def Tryd.fn9_r11f : List DIns :=
   ⟨⟨(some 100), .call 20 [(.t 98), (.t 99)], (some (97, true))⟩, [34, 35, 33, 32, 29, 27, 31, 26, 24, 18, 25, 17, 16, 11, 10, 6, 9, 5, 2, 4, 1, 0, 3, 7, 8, 12, 15, 14, 13, 23, 21, 22, 20, 19, 30, 28], [37, 38, 39, 40], 2⟩ ::
   ⟨⟨(some 101), .lenl (.t 100), (some (97, true))⟩, [36, 33, 34, 35, 32, 29, 27, 31, 26, 24, 18, 25, 17, 16, 11, 10, 6, 9, 5, 2, 4, 1, 0, 3, 7, 8, 12, 15, 14, 13, 23, 21, 22, 20, 19, 30, 28], [38, 39, 40], 0⟩ ::
   ⟨⟨(some 102), .bin .eql (.t 101) (.c (.int .i64 1)), (some (97, true))⟩, [37, 33, 36, 34, 35, 32, 29, 27, 31, 26, 24, 18, 25, 17, 16, 11, 10, 6, 9, 5, 2, 4, 1, 0, 3, 7, 8, 12, 15, 14, 13, 23, 21, 22, 20, 19, 30, 28], [39, 40], 0⟩ ::
   ⟨⟨(some 103), .pick (.t 97) (.t 102) (.c (.bool false)), .none⟩, [33, 38, 32, 29, 27, 31, 26, 24, 18, 25, 17, 16, 11, 10, 6, 9, 5, 2, 4, 1, 0, 3, 7, 8, 12, 15, 14, 13, 23, 21, 22, 20, 19, 30, 28, 37, 36, 34, 35], [40], 0⟩ ::
   ⟨⟨(some 0), .mov (.t 103), .none⟩, [39, 36, 0, 1, 2, 3, 4, 5, 6, 7, 8, 9, 10, 11, 12, 13, 14, 15, 16, 17, 18, 19, 20, 21, 22, 23, 24, 25, 26, 27, 28, 29, 30, 31, 32, 33, 34, 35, 37, 38], [], 0⟩ ::
   []
def Tryd.fn9_r11e : List DIns :=
   ⟨⟨(some 94), .bld [(.int .i64 0), (.int .i64 0), (.int .i64 0), (.int .i64 0), (.int .i64 0), (.str []), (.int .i64 0)] [(0, 1, (.c (.int .i64 3))), (3, 1, (.c (.int .i64 65)))], (some (91, true))⟩, [27, 26, 24, 18, 25, 17, 16, 11, 10, 6, 9, 5, 2, 4, 1, 0, 3, 7, 8, 12, 15, 14, 13, 23, 21, 22, 20, 19], [31, 32, 33, 34, 35, 36, 37, 38, 39, 40], 0⟩ ::
   ⟨⟨(some 95), .eqv false false (.st [(0, .none, .int), (1, .none, .int), (2, .none, .int), (3, .none, .int), (4, .none, .int), (5, .none, .str), (6, .none, .int)]) (.t 93) (.t 94), (some (91, true))⟩, [29, 30, 27, 28, 26, 24, 18, 25, 17, 16, 11, 10, 6, 9, 5, 2, 4, 1, 0, 3, 7, 8, 12, 15, 14, 13, 23, 21, 22, 20, 19], [32, 33, 34, 35, 36, 37, 38, 39, 40], 0⟩ ::
   ⟨⟨(some 96), .pick (.t 91) (.t 95) (.c (.bool false)), .none⟩, [27, 31, 26, 24, 18, 25, 17, 16, 11, 10, 6, 9, 5, 2, 4, 1, 0, 3, 7, 8, 12, 15, 14, 13, 23, 21, 22, 20, 19, 29, 30, 28], [33, 34, 35, 36, 37, 38, 39, 40], 0⟩ ::
   ⟨⟨(some 97), .mov (.t 96), .none⟩, [32, 29, 27, 31, 26, 24, 18, 25, 17, 16, 11, 10, 6, 9, 5, 2, 4, 1, 0, 3, 7, 8, 12, 15, 14, 13, 23, 21, 22, 20, 19, 30, 28], [34, 35, 36, 37, 38, 39, 40], 0⟩ ::
   ⟨⟨(some 98), .mov (.t 8), (some (97, true))⟩, [33, 32, 29, 27, 31, 26, 24, 18, 25, 17, 16, 11, 10, 6, 9, 5, 2, 4, 1, 0, 3, 7, 8, 12, 15, 14, 13, 23, 21, 22, 20, 19, 30, 28], [36, 37, 38, 39, 40], 0⟩ ::
   ⟨⟨(some 99), .bld [(.int .i64 0), (.int .i64 0)] [(0, 1, (.c (.int .i64 15))), (1, 1, (.c (.int .i64 25)))], (some (97, true))⟩, [33, 32, 29, 27, 31, 26, 24, 18, 25, 17, 16, 11, 10, 6, 9, 5, 2, 4, 1, 0, 3, 7, 8, 12, 15, 14, 13, 23, 21, 22, 20, 19, 30, 28], [36, 37, 38, 39, 40], 0⟩ ::
   Tryd.fn9_r11f
def Tryd.fn9_r11d : List DIns :=
   ⟨⟨(some 88), .call 26 [(.t 87)], (some (82, true))⟩, [23, 18, 21, 22, 20, 19, 17, 16, 11, 10, 6, 9, 5, 2, 4, 1, 0, 3, 7, 8, 12, 15, 14, 13], [25, 26, 27, 28, 29, 30, 31, 32, 33, 34, 35, 36, 37, 38, 39, 40], 2⟩ ::
   ⟨⟨(some 89), .un .not (.t 88), (some (82, true))⟩, [24, 18, 23, 21, 22, 20, 19, 17, 16, 11, 10, 6, 9, 5, 2, 4, 1, 0, 3, 7, 8, 12, 15, 14, 13], [26, 27, 28, 29, 30, 31, 32, 33, 34, 35, 36, 37, 38, 39, 40], 0⟩ ::
   ⟨⟨(some 90), .pick (.t 82) (.t 89) (.c (.bool false)), .none⟩, [18, 25, 17, 16, 11, 10, 6, 9, 5, 2, 4, 1, 0, 3, 7, 8, 12, 15, 14, 13, 24, 23, 21, 22, 20, 19], [27, 28, 29, 30, 31, 32, 33, 34, 35, 36, 37, 38, 39, 40], 0⟩ ::
   ⟨⟨(some 91), .mov (.t 90), .none⟩, [26, 24, 18, 25, 17, 16, 11, 10, 6, 9, 5, 2, 4, 1, 0, 3, 7, 8, 12, 15, 14, 13, 23, 21, 22, 20, 19], [28, 29, 30, 31, 32, 33, 34, 35, 36, 37, 38, 39, 40], 0⟩ ::
   ⟨⟨(some 92), .ldn 7 (.t 1), (some (91, true))⟩, [27, 26, 24, 18, 25, 17, 16, 11, 10, 6, 9, 5, 2, 4, 1, 0, 3, 7, 8, 12, 15, 14, 13, 23, 21, 22, 20, 19], [29, 31, 32, 33, 34, 35, 36, 37, 38, 39, 40], 2⟩ ::
   ⟨⟨(some 93), .call 14 [(.t 92)], (some (91, true))⟩, [28, 27, 26, 24, 18, 25, 17, 16, 11, 10, 6, 9, 5, 2, 4, 1, 0, 3, 7, 8, 12, 15, 14, 13, 23, 21, 22, 20, 19], [31, 32, 33, 34, 35, 36, 37, 38, 39, 40], 2⟩ ::
   Tryd.fn9_r11e
def Tryd.fn9_r11c : List DIns :=
   ⟨⟨(some 82), .mov (.t 81), .none⟩, [17, 16, 11, 10, 6, 9, 5, 2, 4, 1, 0, 3, 7, 8, 12, 15, 14, 13], [19, 20, 21, 22, 23, 24, 25, 26, 27, 28, 29, 30, 31, 32, 33, 34, 35, 36, 37, 38, 39, 40], 0⟩ ::
   ⟨⟨(some 83), .mov (.t 8), (some (82, true))⟩, [18, 17, 16, 11, 10, 6, 9, 5, 2, 4, 1, 0, 3, 7, 8, 12, 15, 14, 13], [20, 21, 23, 24, 25, 26, 27, 28, 29, 30, 31, 32, 33, 34, 35, 36, 37, 38, 39, 40], 0⟩ ::
   ⟨⟨(some 84), .ia 7 (.t 83) (.c (.int .i64 0)), (some (82, true))⟩, [19, 18, 17, 16, 11, 10, 6, 9, 5, 2, 4, 1, 0, 3, 7, 8, 12, 15, 14, 13], [21, 23, 24, 25, 26, 27, 28, 29, 30, 31, 32, 33, 34, 35, 36, 37, 38, 39, 40], 0⟩ ::
   ⟨⟨(some 85), .ldn 7 (.t 84), (some (82, true))⟩, [20, 18, 19, 17, 16, 11, 10, 6, 9, 5, 2, 4, 1, 0, 3, 7, 8, 12, 15, 14, 13], [23, 24, 25, 26, 27, 28, 29, 30, 31, 32, 33, 34, 35, 36, 37, 38, 39, 40], 1⟩ ::
   ⟨⟨(some 86), .ldn 7 (.t 1), (some (82, true))⟩, [18, 17, 16, 11, 10, 6, 9, 5, 2, 4, 1, 0, 3, 7, 8, 12, 15, 14, 13], [23, 24, 25, 26, 27, 28, 29, 30, 31, 32, 33, 34, 35, 36, 37, 38, 39, 40], 1⟩ ::
   ⟨⟨(some 87), .bsl 23 7 2 [(.int .i64 0), (.int .i64 0), (.int .i64 0), (.int .i64 0), (.int .i64 0), (.str []), (.int .i64 0)] [(0, 7, (.t 85)), (7, 7, (.t 86))], (some (82, true))⟩, [21, 22, 18, 20, 19, 17, 16, 11, 10, 6, 9, 5, 2, 4, 1, 0, 3, 7, 8, 12, 15, 14, 13], [24, 25, 26, 27, 28, 29, 30, 31, 32, 33, 34, 35, 36, 37, 38, 39, 40], 2⟩ ::
   Tryd.fn9_r11d
def Tryd.fn9_r11b : List DIns :=
   ⟨⟨(some 76), .ldn 7 (.t 1), (some (75, true))⟩, [11, 10, 6, 9, 5, 2, 4, 1, 0, 3, 7, 8], [16, 17, 18, 19, 20, 21, 22, 23, 24, 25, 26, 27, 28, 29, 30, 31, 32, 33, 34, 35, 36, 37, 38, 39, 40], 1⟩ ::
   ⟨⟨(some 77), .mov (.t 8), (some (75, true))⟩, [11, 10, 6, 9, 5, 2, 4, 1, 0, 3, 7, 8], [14, 15, 16, 17, 18, 19, 20, 21, 22, 23, 24, 25, 26, 27, 28, 29, 30, 31, 32, 33, 34, 35, 36, 37, 38, 39, 40], 0⟩ ::
   ⟨⟨(some 78), .ia 7 (.t 77) (.c (.int .i64 0)), (some (75, true))⟩, [13, 11, 10, 6, 9, 5, 2, 4, 1, 0, 3, 7, 8], [15, 16, 17, 18, 19, 20, 21, 22, 23, 24, 25, 26, 27, 28, 29, 30, 31, 32, 33, 34, 35, 36, 37, 38, 39, 40], 0⟩ ::
   ⟨⟨(some 79), .ldn 7 (.t 78), (some (75, true))⟩, [14, 11, 13, 10, 6, 9, 5, 2, 4, 1, 0, 3, 7, 8], [16, 17, 18, 19, 20, 21, 22, 23, 24, 25, 26, 27, 28, 29, 30, 31, 32, 33, 34, 35, 36, 37, 38, 39, 40], 1⟩ ::
   ⟨⟨(some 80), .call 12 [(.t 76), (.t 79)], (some (75, true))⟩, [12, 15, 11, 10, 6, 9, 5, 2, 4, 1, 0, 3, 7, 8, 14, 13], [17, 18, 19, 20, 21, 22, 23, 24, 25, 26, 27, 28, 29, 30, 31, 32, 33, 34, 35, 36, 37, 38, 39, 40], 2⟩ ::
   ⟨⟨(some 81), .pick (.t 75) (.t 80) (.c (.bool false)), .none⟩, [11, 16, 10, 6, 9, 5, 2, 4, 1, 0, 3, 7, 8, 12, 15, 14, 13], [18, 19, 20, 21, 22, 23, 24, 25, 26, 27, 28, 29, 30, 31, 32, 33, 34, 35, 36, 37, 38, 39, 40], 0⟩ ::
   Tryd.fn9_r11c
def Tryd.fn9_r11a : List DIns :=
   ⟨⟨(some 70), .mov (.t 69), .none⟩, [5, 2, 4, 1, 0, 3], [7, 8, 9, 10, 11, 12, 13, 14, 15, 16, 17, 18, 19, 20, 21, 22, 23, 24, 25, 26, 27, 28, 29, 30, 31, 32, 33, 34, 35, 36, 37, 38, 39, 40], 0⟩ ::
   ⟨⟨(some 71), .ldn 7 (.t 4), (some (70, true))⟩, [6, 5, 2, 4, 1, 0, 3], [9, 10, 11, 12, 13, 14, 15, 16, 17, 18, 19, 20, 21, 22, 23, 24, 25, 26, 27, 28, 29, 30, 31, 32, 33, 34, 35, 36, 37, 38, 39, 40], 1⟩ ::
   ⟨⟨(some 72), .ldn 7 (.t 1), (some (70, true))⟩, [6, 5, 2, 4, 1, 0, 3], [9, 10, 11, 12, 13, 14, 15, 16, 17, 18, 19, 20, 21, 22, 23, 24, 25, 26, 27, 28, 29, 30, 31, 32, 33, 34, 35, 36, 37, 38, 39, 40], 1⟩ ::
   ⟨⟨(some 73), .eqv false false (.st [(0, .none, .int), (1, .none, .int), (2, .none, .int), (3, .none, .int), (4, .none, .int), (5, .none, .str), (6, .none, .int)]) (.t 71) (.t 72), (some (70, true))⟩, [7, 8, 6, 5, 2, 4, 1, 0, 3], [10, 11, 12, 13, 14, 15, 16, 17, 18, 19, 20, 21, 22, 23, 24, 25, 26, 27, 28, 29, 30, 31, 32, 33, 34, 35, 36, 37, 38, 39, 40], 0⟩ ::
   ⟨⟨(some 74), .pick (.t 70) (.t 73) (.c (.bool false)), .none⟩, [6, 9, 5, 2, 4, 1, 0, 3, 7, 8], [11, 12, 13, 14, 15, 16, 17, 18, 19, 20, 21, 22, 23, 24, 25, 26, 27, 28, 29, 30, 31, 32, 33, 34, 35, 36, 37, 38, 39, 40], 0⟩ ::
   ⟨⟨(some 75), .mov (.t 74), .none⟩, [10, 6, 9, 5, 2, 4, 1, 0, 3, 7, 8], [12, 13, 14, 15, 16, 17, 18, 19, 20, 21, 22, 23, 24, 25, 26, 27, 28, 29, 30, 31, 32, 33, 34, 35, 36, 37, 38, 39, 40], 0⟩ ::
   Tryd.fn9_r11b
def Tryd.fn9_r11 : List DIns :=
   ⟨⟨(some 64), .ldn 7 (.t 1), .none⟩, [], [1, 2, 3, 4, 5, 6, 7, 8, 9, 10, 11, 12, 13, 14, 15, 16, 17, 18, 19, 20, 21, 22, 23, 24, 25, 26, 27, 28, 29, 30, 31, 32, 33, 34, 35, 36, 37, 38, 39, 40], 2⟩ ::
   ⟨⟨(some 65), .call 10 [(.t 64)], .none⟩, [0], [2, 3, 4, 5, 6, 7, 8, 9, 10, 11, 12, 13, 14, 15, 16, 17, 18, 19, 20, 21, 22, 23, 24, 25, 26, 27, 28, 29, 30, 31, 32, 33, 34, 35, 36, 37, 38, 39, 40], 2⟩ ::
   ⟨⟨(some 66), .mov (.t 65), .none⟩, [1, 0], [3, 4, 5, 6, 7, 8, 9, 10, 11, 12, 13, 14, 15, 16, 17, 18, 19, 20, 21, 22, 23, 24, 25, 26, 27, 28, 29, 30, 31, 32, 33, 34, 35, 36, 37, 38, 39, 40], 0⟩ ::
   ⟨⟨(some 67), .mov (.t 2), (some (66, true))⟩, [2, 1, 0], [4, 5, 6, 7, 8, 9, 10, 11, 12, 13, 14, 15, 16, 17, 18, 19, 20, 21, 22, 23, 24, 25, 26, 27, 28, 29, 30, 31, 32, 33, 34, 35, 36, 37, 38, 39, 40], 0⟩ ::
   ⟨⟨(some 68), .bin .eql (.t 67) (.c (.str [98, 121, 116, 101, 32, 49, 48, 32, 50, 48, 32, 54, 53, 32, 48, 32, 48, 32, 34, 34])), (some (66, true))⟩, [3, 2, 1, 0], [5, 6, 7, 8, 9, 10, 11, 12, 13, 14, 15, 16, 17, 18, 19, 20, 21, 22, 23, 24, 25, 26, 27, 28, 29, 30, 31, 32, 33, 34, 35, 36, 37, 38, 39, 40], 0⟩ ::
   ⟨⟨(some 69), .pick (.t 66) (.t 68) (.c (.bool false)), .none⟩, [2, 4, 1, 0, 3], [6, 7, 8, 9, 10, 11, 12, 13, 14, 15, 16, 17, 18, 19, 20, 21, 22, 23, 24, 25, 26, 27, 28, 29, 30, 31, 32, 33, 34, 35, 36, 37, 38, 39, 40], 0⟩ ::
   Tryd.fn9_r11a
def Tryd.fn9 : AFun :=
 ⟨104, [.tmp 0],
 (.seq (.seq (.reg Tryd.fn9_r0)
  (.trim []))
 (.seq (.seq (.reg Tryd.fn9_r1)
  (.trim [1]))
 (.seq (.seq (.reg Tryd.fn9_r2)
  (.trim [1, 2, 3]))
 (.seq (.seq (.reg Tryd.fn9_r3)
  (.trim [1, 2, 3, 4, 5]))
 (.seq (.seq (.reg Tryd.fn9_r4)
  (.trim [1, 2, 3, 4, 5, 7]))
 (.seq (.seq (.reg Tryd.fn9_r5)
  (.trim [1, 2, 3, 4, 5, 7, 8, 9]))
 (.seq (.seq (.seq (.seq (.reg Tryd.fn9_r6)
    (.trim [1, 2, 4, 8, 9, 40]))
   (.seq (.seq (.reg Tryd.fn9_r7)
    (.trim [1, 2, 4, 8, 50]))
   (.seq (.seq (.reg Tryd.fn9_r8)
    (.trim [1, 2, 4, 8, 57, 60]))
   (.seq (.reg Tryd.fn9_r9)
   (.trim [1, 2, 4, 8, 63])))))
  (.cond (.t 63)
   (.seq (.seq (.reg Tryd.fn9_r10)
    (.trim [0]))
   .ret)
   .skip))
 (.seq (.seq (.regd Tryd.fn9_r11)
  (.trim [0]))
 .ret)))))))), true⟩
/-! signalbench/event.Valid -/
def Tryd.fn10_r0 : List AIns :=
   [⟨(some 1), .box 23 (.t 0), .none⟩,
    ⟨(some 2), .mov (.c (.bool false)), .none⟩]
def Tryd.fn10_r1 : List AIns :=
   [⟨(some 4), .fa 0 (.t 1), .none⟩,
      ⟨(some 5), .ld1 (.t 4), .none⟩,
      ⟨(some 6), .bin .lss (.t 5) (.c (.int .i64 1)), .none⟩,
      ⟨(some 7), .mov (.t 6), .none⟩,
      ⟨(some 8), .fa 0 (.t 1), (some (7, false))⟩,
      ⟨(some 9), .ld1 (.t 8), (some (7, false))⟩,
      ⟨(some 10), .bin .gtr (.t 9) (.c (.int .i64 8)), (some (7, false))⟩,
      ⟨(some 11), .pick (.t 7) (.c (.bool true)) (.t 10), .none⟩,
      ⟨(some 3), .mov (.t 11), .none⟩]
def Tryd.fn10_r2 : List AIns :=
   [⟨(some 2), .mov (.c (.bool false)), .none⟩]
def Tryd.fn10_r3 : List AIns :=
   [⟨(some 13), .fa 1 (.t 1), .none⟩,
        ⟨(some 14), .ld1 (.t 13), .none⟩,
        ⟨(some 15), .bin .lss (.t 14) (.c (.int .i64 0)), .none⟩,
        ⟨(some 16), .mov (.t 15), .none⟩,
        ⟨(some 17), .fa 1 (.t 1), (some (16, false))⟩,
        ⟨(some 18), .ld1 (.t 17), (some (16, false))⟩,
        ⟨(some 19), .fa 2 (.t 1), (some (16, false))⟩,
        ⟨(some 20), .ld1 (.t 19), (some (16, false))⟩,
        ⟨(some 21), .bin .gtr (.t 18) (.t 20), (some (16, false))⟩,
        ⟨(some 22), .pick (.t 16) (.c (.bool true)) (.t 21), .none⟩]
def Tryd.fn10_r4 : List AIns :=
   [⟨(some 23), .mov (.t 22), .none⟩,
       ⟨(some 24), .fa 2 (.t 1), (some (23, false))⟩,
       ⟨(some 25), .ld1 (.t 24), (some (23, false))⟩,
       ⟨(some 26), .bin .gtr (.t 25) (.c (.int .i64 1099511627776)), (some (23, false))⟩,
       ⟨(some 27), .pick (.t 23) (.c (.bool true)) (.t 26), .none⟩,
       ⟨(some 12), .mov (.t 27), .none⟩]
def Tryd.fn10_r5 : List AIns :=
   [⟨(some 2), .mov (.c (.bool false)), .none⟩]
def Tryd.fn10_r6 : List AIns :=
   [⟨(some 29), .fa 3 (.t 1), .none⟩,
         ⟨(some 30), .ld1 (.t 29), .none⟩,
         ⟨(some 31), .bin .lss (.t 30) (.c (.int .i64 (-9007199254740992))), .none⟩,
         ⟨(some 32), .mov (.t 31), .none⟩,
         ⟨(some 33), .fa 3 (.t 1), (some (32, false))⟩,
         ⟨(some 34), .ld1 (.t 33), (some (32, false))⟩,
         ⟨(some 35), .bin .gtr (.t 34) (.c (.int .i64 9007199254740992)), (some (32, false))⟩,
         ⟨(some 36), .pick (.t 32) (.c (.bool true)) (.t 35), .none⟩,
         ⟨(some 37), .mov (.t 36), .none⟩,
         ⟨(some 38), .fa 4 (.t 1), (some (37, false))⟩]
def Tryd.fn10_r7 : List AIns :=
   [⟨(some 39), .ld1 (.t 38), (some (37, false))⟩,
        ⟨(some 40), .bin .lss (.t 39) (.c (.int .i64 (-9007199254740992))), (some (37, false))⟩,
        ⟨(some 41), .pick (.t 37) (.c (.bool true)) (.t 40), .none⟩,
        ⟨(some 42), .mov (.t 41), .none⟩,
        ⟨(some 43), .fa 4 (.t 1), (some (42, false))⟩,
        ⟨(some 44), .ld1 (.t 43), (some (42, false))⟩,
        ⟨(some 45), .bin .gtr (.t 44) (.c (.int .i64 9007199254740992)), (some (42, false))⟩,
        ⟨(some 46), .pick (.t 42) (.c (.bool true)) (.t 45), .none⟩,
        ⟨(some 28), .mov (.t 46), .none⟩]
def Tryd.fn10_r8 : List AIns :=
   [⟨(some 2), .mov (.c (.bool false)), .none⟩]
def Tryd.fn10_r9 : List AIns :=
   [⟨(some 47), .fa 5 (.t 1), .none⟩,
     ⟨(some 48), .ld1 (.t 47), .none⟩,
     ⟨(some 49), .lens (.t 48), .none⟩,
     ⟨(some 50), .bin .leq (.t 49) (.c (.int .i64 4096)), .none⟩,
     ⟨(some 51), .mov (.t 50), .none⟩,
     ⟨(some 52), .fa 6 (.t 1), (some (51, true))⟩,
     ⟨(some 53), .ld1 (.t 52), (some (51, true))⟩,
     ⟨(some 54), .bin .geq (.t 53) (.c (.int .i64 0)), (some (51, true))⟩,
     ⟨(some 55), .pick (.t 51) (.t 54) (.c (.bool false)), .none⟩,
     ⟨(some 56), .mov (.t 55), .none⟩]
def Tryd.fn10_r10 : List AIns :=
   [⟨(some 57), .fa 6 (.t 1), (some (56, true))⟩,
    ⟨(some 58), .ld1 (.t 57), (some (56, true))⟩,
    ⟨(some 59), .bin .leq (.t 58) (.c (.int .i64 12)), (some (56, true))⟩,
    ⟨(some 60), .pick (.t 56) (.t 59) (.c (.bool false)), .none⟩,
    ⟨(some 2), .mov (.t 60), .none⟩]
def Tryd.fn10 : AFun :=
 ⟨61, [.tmp 2],
 (.seq (.seq (.reg Tryd.fn10_r0)
  (.trim [1]))
 (.seq (.block 0
   (.seq (.seq (.reg Tryd.fn10_r1)
    (.trim [1, 3]))
   (.cond (.t 3)
    (.seq (.seq (.reg Tryd.fn10_r2)
     (.trim [2]))
    .ret)
    (.seq (.seq (.seq (.reg Tryd.fn10_r3)
      (.trim [1, 22]))
     (.seq (.reg Tryd.fn10_r4)
     (.trim [1, 12])))
    (.cond (.t 12)
     (.seq (.seq (.reg Tryd.fn10_r5)
      (.trim [2]))
     .ret)
     (.seq (.seq (.seq (.reg Tryd.fn10_r6)
       (.trim [1, 37, 38]))
      (.seq (.reg Tryd.fn10_r7)
      (.trim [1, 28])))
     (.cond (.t 28)
      (.seq (.seq (.reg Tryd.fn10_r8)
       (.trim [2]))
      .ret)
      .skip)))))))
 (.seq (.seq (.seq (.reg Tryd.fn10_r9)
   (.trim [1, 56]))
  (.seq (.reg Tryd.fn10_r10)
  (.trim [2])))
 .ret))), true⟩
/-! signalbench/signalbenchref07.Valid -/
def Tryd.fn11_r0 : List AIns :=
   [⟨(some 1), .box 23 (.t 0), .none⟩,
    ⟨(some 2), .mov (.c (.bool false)), .none⟩]
def Tryd.fn11_r1 : List AIns :=
   [⟨(some 3), .fa 0 (.t 1), .none⟩,
      ⟨(some 4), .ld1 (.t 3), .none⟩,
      ⟨(some 5), .bin .lss (.t 4) (.c (.int .i64 1)), .none⟩,
      ⟨(some 6), .mov (.t 5), .none⟩,
      ⟨(some 7), .fa 0 (.t 1), (some (6, false))⟩,
      ⟨(some 8), .ld1 (.t 7), (some (6, false))⟩,
      ⟨(some 9), .bin .gtr (.t 8) (.c (.int .i64 8)), (some (6, false))⟩,
      ⟨(some 10), .pick (.t 6) (.c (.bool true)) (.t 9), .none⟩,
      ⟨(some 11), .mov (.t 10), .none⟩,
      ⟨(some 12), .fa 1 (.t 1), (some (11, false))⟩]
def Tryd.fn11_r2 : List AIns :=
   [⟨(some 13), .ld1 (.t 12), (some (11, false))⟩,
      ⟨(some 14), .bin .lss (.t 13) (.c (.int .i64 0)), (some (11, false))⟩,
      ⟨(some 15), .pick (.t 11) (.c (.bool true)) (.t 14), .none⟩,
      ⟨(some 16), .mov (.t 15), .none⟩,
      ⟨(some 17), .fa 1 (.t 1), (some (16, false))⟩,
      ⟨(some 18), .ld1 (.t 17), (some (16, false))⟩,
      ⟨(some 19), .fa 2 (.t 1), (some (16, false))⟩,
      ⟨(some 20), .ld1 (.t 19), (some (16, false))⟩,
      ⟨(some 21), .bin .gtr (.t 18) (.t 20), (some (16, false))⟩,
      ⟨(some 22), .pick (.t 16) (.c (.bool true)) (.t 21), .none⟩]
def Tryd.fn11_r3 : List AIns :=
   [⟨(some 23), .mov (.t 22), .none⟩,
      ⟨(some 24), .fa 2 (.t 1), (some (23, false))⟩,
      ⟨(some 25), .ld1 (.t 24), (some (23, false))⟩,
      ⟨(some 26), .bin .gtr (.t 25) (.c (.int .i64 1099511627776)), (some (23, false))⟩,
      ⟨(some 27), .pick (.t 23) (.c (.bool true)) (.t 26), .none⟩,
      ⟨(some 28), .mov (.t 27), .none⟩,
      ⟨(some 29), .fa 5 (.t 1), (some (28, false))⟩,
      ⟨(some 30), .ld1 (.t 29), (some (28, false))⟩,
      ⟨(some 31), .lens (.t 30), (some (28, false))⟩,
      ⟨(some 32), .bin .gtr (.t 31) (.c (.int .i64 4096)), (some (28, false))⟩]
def Tryd.fn11_r4 : List AIns :=
   [⟨(some 33), .pick (.t 28) (.c (.bool true)) (.t 32), .none⟩,
      ⟨(some 34), .mov (.t 33), .none⟩,
      ⟨(some 35), .fa 6 (.t 1), (some (34, false))⟩,
      ⟨(some 36), .ld1 (.t 35), (some (34, false))⟩,
      ⟨(some 37), .bin .lss (.t 36) (.c (.int .i64 0)), (some (34, false))⟩,
      ⟨(some 38), .pick (.t 34) (.c (.bool true)) (.t 37), .none⟩,
      ⟨(some 39), .mov (.t 38), .none⟩,
      ⟨(some 40), .fa 6 (.t 1), (some (39, false))⟩,
      ⟨(some 41), .ld1 (.t 40), (some (39, false))⟩,
      ⟨(some 42), .bin .gtr (.t 41) (.c (.int .i64 12)), (some (39, false))⟩]
def Tryd.fn11_r5 : List AIns :=
   [⟨(some 43), .pick (.t 39) (.c (.bool true)) (.t 42), .none⟩]
def Tryd.fn11_r6 : List AIns :=
   [⟨(some 2), .mov (.c (.bool false)), .none⟩]
def Tryd.fn11_r7 : List AIns :=
   [⟨(some 44), .fa 3 (.t 1), .none⟩,
     ⟨(some 45), .ld1 (.t 44), .none⟩,
     ⟨(some 46), .bin .geq (.t 45) (.c (.int .i64 (-9007199254740992))), .none⟩,
     ⟨(some 47), .mov (.t 46), .none⟩,
     ⟨(some 48), .fa 3 (.t 1), (some (47, true))⟩,
     ⟨(some 49), .ld1 (.t 48), (some (47, true))⟩,
     ⟨(some 50), .bin .leq (.t 49) (.c (.int .i64 9007199254740992)), (some (47, true))⟩,
     ⟨(some 51), .pick (.t 47) (.t 50) (.c (.bool false)), .none⟩,
     ⟨(some 52), .mov (.t 51), .none⟩,
     ⟨(some 53), .fa 4 (.t 1), (some (52, true))⟩]
def Tryd.fn11_r8 : List AIns :=
   [⟨(some 54), .ld1 (.t 53), (some (52, true))⟩,
    ⟨(some 55), .bin .geq (.t 54) (.c (.int .i64 (-9007199254740992))), (some (52, true))⟩,
    ⟨(some 56), .pick (.t 52) (.t 55) (.c (.bool false)), .none⟩,
    ⟨(some 57), .mov (.t 56), .none⟩,
    ⟨(some 58), .fa 4 (.t 1), (some (57, true))⟩,
    ⟨(some 59), .ld1 (.t 58), (some (57, true))⟩,
    ⟨(some 60), .bin .leq (.t 59) (.c (.int .i64 9007199254740992)), (some (57, true))⟩,
    ⟨(some 61), .pick (.t 57) (.t 60) (.c (.bool false)), .none⟩,
    ⟨(some 2), .mov (.t 61), .none⟩]
def Tryd.fn11 : AFun :=
 ⟨62, [.tmp 2],
 (.seq (.seq (.reg Tryd.fn11_r0)
  (.trim [1]))
 (.seq (.seq (.seq (.seq (.reg Tryd.fn11_r1)
    (.trim [1, 11, 12]))
   (.seq (.seq (.reg Tryd.fn11_r2)
    (.trim [1, 22]))
   (.seq (.seq (.reg Tryd.fn11_r3)
    (.trim [1, 28, 32]))
   (.seq (.seq (.reg Tryd.fn11_r4)
    (.trim [1, 39, 42]))
   (.seq (.reg Tryd.fn11_r5)
   (.trim [1, 43]))))))
  (.cond (.t 43)
   (.seq (.seq (.reg Tryd.fn11_r6)
    (.trim [2]))
   .ret)
   .skip))
 (.seq (.seq (.seq (.reg Tryd.fn11_r7)
   (.trim [1, 52, 53]))
  (.seq (.reg Tryd.fn11_r8)
  (.trim [2])))
 .ret))), true⟩
/-! signalbench/event.Less -/
def Tryd.fn12_r0 : List AIns :=
   [⟨(some 2), .box 23 (.t 0), .none⟩,
    ⟨(some 3), .box 23 (.t 1), .none⟩,
    ⟨(some 4), .mov (.c (.bool false)), .none⟩]
def Tryd.fn12_r1 : List AIns :=
   [⟨(some 5), .ldn 7 (.t 2), .none⟩,
    ⟨(some 6), .ldn 7 (.t 3), .none⟩,
    ⟨(some 7), .call 27 [(.t 5), (.t 6)], .none⟩,
    ⟨(some 8), .bin .lss (.t 7) (.c (.int .i64 0)), .none⟩,
    ⟨(some 4), .mov (.t 8), .none⟩]
def Tryd.fn12 : AFun :=
 ⟨9, [.tmp 4],
 (.seq (.seq (.reg Tryd.fn12_r0)
  (.trim [2, 3]))
 (.seq (.seq (.reg Tryd.fn12_r1)
  (.trim [4]))
 .ret)), true⟩
/-! signalbench/signalbenchref07.Less -/
def Tryd.fn13_r0 : List AIns :=
   [⟨(some 2), .box 23 (.t 0), .none⟩,
    ⟨(some 3), .box 23 (.t 1), .none⟩,
    ⟨(some 4), .mov (.c (.bool false)), .none⟩]
def Tryd.fn13_r1 : List AIns :=
   [⟨(some 5), .fa 1 (.t 2), .none⟩,
     ⟨(some 6), .ld1 (.t 5), .none⟩,
     ⟨(some 7), .fa 1 (.t 3), .none⟩,
     ⟨(some 8), .ld1 (.t 7), .none⟩,
     ⟨(some 9), .bin .neq (.t 6) (.t 8), .none⟩]
def Tryd.fn13_r2 : List AIns :=
   [⟨(some 10), .fa 1 (.t 2), .none⟩,
      ⟨(some 11), .ld1 (.t 10), .none⟩,
      ⟨(some 12), .fa 1 (.t 3), .none⟩,
      ⟨(some 13), .ld1 (.t 12), .none⟩,
      ⟨(some 14), .bin .lss (.t 11) (.t 13), .none⟩,
      ⟨(some 4), .mov (.t 14), .none⟩]
def Tryd.fn13_r3 : List AIns :=
   [⟨(some 15), .fa 2 (.t 2), .none⟩,
     ⟨(some 16), .ld1 (.t 15), .none⟩,
     ⟨(some 17), .fa 2 (.t 3), .none⟩,
     ⟨(some 18), .ld1 (.t 17), .none⟩,
     ⟨(some 19), .bin .neq (.t 16) (.t 18), .none⟩]
def Tryd.fn13_r4 : List AIns :=
   [⟨(some 20), .fa 2 (.t 2), .none⟩,
      ⟨(some 21), .ld1 (.t 20), .none⟩,
      ⟨(some 22), .fa 2 (.t 3), .none⟩,
      ⟨(some 23), .ld1 (.t 22), .none⟩,
      ⟨(some 24), .bin .lss (.t 21) (.t 23), .none⟩,
      ⟨(some 4), .mov (.t 24), .none⟩]
def Tryd.fn13_r5 : List AIns :=
   [⟨(some 25), .fa 0 (.t 2), .none⟩,
     ⟨(some 26), .ld1 (.t 25), .none⟩,
     ⟨(some 27), .fa 0 (.t 3), .none⟩,
     ⟨(some 28), .ld1 (.t 27), .none⟩,
     ⟨(some 29), .bin .neq (.t 26) (.t 28), .none⟩]
def Tryd.fn13_r6 : List AIns :=
   [⟨(some 30), .fa 0 (.t 2), .none⟩,
      ⟨(some 31), .ld1 (.t 30), .none⟩,
      ⟨(some 32), .fa 0 (.t 3), .none⟩,
      ⟨(some 33), .ld1 (.t 32), .none⟩,
      ⟨(some 34), .bin .lss (.t 31) (.t 33), .none⟩,
      ⟨(some 4), .mov (.t 34), .none⟩]
def Tryd.fn13_r7 : List AIns :=
   [⟨(some 35), .fa 3 (.t 2), .none⟩,
     ⟨(some 36), .ld1 (.t 35), .none⟩,
     ⟨(some 37), .fa 3 (.t 3), .none⟩,
     ⟨(some 38), .ld1 (.t 37), .none⟩,
     ⟨(some 39), .bin .neq (.t 36) (.t 38), .none⟩]
def Tryd.fn13_r8 : List AIns :=
   [⟨(some 40), .fa 3 (.t 2), .none⟩,
      ⟨(some 41), .ld1 (.t 40), .none⟩,
      ⟨(some 42), .fa 3 (.t 3), .none⟩,
      ⟨(some 43), .ld1 (.t 42), .none⟩,
      ⟨(some 44), .bin .lss (.t 41) (.t 43), .none⟩,
      ⟨(some 4), .mov (.t 44), .none⟩]
def Tryd.fn13_r9 : List AIns :=
   [⟨(some 45), .fa 4 (.t 2), .none⟩,
     ⟨(some 46), .ld1 (.t 45), .none⟩,
     ⟨(some 47), .fa 4 (.t 3), .none⟩,
     ⟨(some 48), .ld1 (.t 47), .none⟩,
     ⟨(some 49), .bin .neq (.t 46) (.t 48), .none⟩]
def Tryd.fn13_r10 : List AIns :=
   [⟨(some 50), .fa 4 (.t 2), .none⟩,
      ⟨(some 51), .ld1 (.t 50), .none⟩,
      ⟨(some 52), .fa 4 (.t 3), .none⟩,
      ⟨(some 53), .ld1 (.t 52), .none⟩,
      ⟨(some 54), .bin .lss (.t 51) (.t 53), .none⟩,
      ⟨(some 4), .mov (.t 54), .none⟩]
def Tryd.fn13_r11 : List AIns :=
   [⟨(some 55), .fa 5 (.t 2), .none⟩,
     ⟨(some 56), .ld1 (.t 55), .none⟩,
     ⟨(some 57), .fa 5 (.t 3), .none⟩,
     ⟨(some 58), .ld1 (.t 57), .none⟩,
     ⟨(some 59), .bin .neq (.t 56) (.t 58), .none⟩]
def Tryd.fn13_r12 : List AIns :=
   [⟨(some 60), .fa 5 (.t 2), .none⟩,
      ⟨(some 61), .ld1 (.t 60), .none⟩,
      ⟨(some 62), .fa 5 (.t 3), .none⟩,
      ⟨(some 63), .ld1 (.t 62), .none⟩,
      ⟨(some 64), .bin .lss (.t 61) (.t 63), .none⟩,
      ⟨(some 4), .mov (.t 64), .none⟩]
def Tryd.fn13_r13 : List AIns :=
   [⟨(some 65), .fa 6 (.t 2), .none⟩,
    ⟨(some 66), .ld1 (.t 65), .none⟩,
    ⟨(some 67), .fa 6 (.t 3), .none⟩,
    ⟨(some 68), .ld1 (.t 67), .none⟩,
    ⟨(some 69), .bin .lss (.t 66) (.t 68), .none⟩,
    ⟨(some 4), .mov (.t 69), .none⟩]
def Tryd.fn13 : AFun :=
 ⟨70, [.tmp 4],
 (.seq (.seq (.reg Tryd.fn13_r0)
  (.trim [2, 3]))
 (.seq (.seq (.seq (.reg Tryd.fn13_r1)
   (.trim [2, 3, 9]))
  (.cond (.t 9)
   (.seq (.seq (.reg Tryd.fn13_r2)
    (.trim [4]))
   .ret)
   .skip))
 (.seq (.seq (.seq (.reg Tryd.fn13_r3)
   (.trim [2, 3, 19]))
  (.cond (.t 19)
   (.seq (.seq (.reg Tryd.fn13_r4)
    (.trim [4]))
   .ret)
   .skip))
 (.seq (.seq (.seq (.reg Tryd.fn13_r5)
   (.trim [2, 3, 29]))
  (.cond (.t 29)
   (.seq (.seq (.reg Tryd.fn13_r6)
    (.trim [4]))
   .ret)
   .skip))
 (.seq (.seq (.seq (.reg Tryd.fn13_r7)
   (.trim [2, 3, 39]))
  (.cond (.t 39)
   (.seq (.seq (.reg Tryd.fn13_r8)
    (.trim [4]))
   .ret)
   .skip))
 (.seq (.seq (.seq (.reg Tryd.fn13_r9)
   (.trim [2, 3, 49]))
  (.cond (.t 49)
   (.seq (.seq (.reg Tryd.fn13_r10)
    (.trim [4]))
   .ret)
   .skip))
 (.seq (.seq (.seq (.reg Tryd.fn13_r11)
   (.trim [2, 3, 59]))
  (.cond (.t 59)
   (.seq (.seq (.reg Tryd.fn13_r12)
    (.trim [4]))
   .ret)
   .skip))
 (.seq (.seq (.reg Tryd.fn13_r13)
  (.trim [4]))
 .ret)))))))), true⟩
/-! signalbench/event.Core -/
def Tryd.fn14_r0 : List AIns :=
   [⟨(some 1), .box 23 (.t 0), .none⟩,
    ⟨(some 2), .alloc 23 [(.int .i64 0), (.int .i64 0), (.int .i64 0), (.int .i64 0), (.int .i64 0), (.str []), (.int .i64 0)], .none⟩]
def Tryd.fn14_r1 : List AIns :=
   [⟨(some 3), .fa 1 (.t 1), .none⟩,
    ⟨.none, .st 1 (.t 3) (.c (.int .i64 0)), .none⟩,
    ⟨(some 4), .fa 2 (.t 1), .none⟩,
    ⟨.none, .st 1 (.t 4) (.c (.int .i64 0)), .none⟩]
def Tryd.fn14_r2 : List AIns :=
   [⟨(some 5), .ldn 7 (.t 1), .none⟩,
    ⟨.none, .st 7 (.t 2) (.t 5), .none⟩]
def Tryd.fn14 : AFun :=
 ⟨6, [.celln 2 7],
 (.seq (.seq (.reg Tryd.fn14_r0)
  (.trim [1, 2]))
 (.seq (.seq (.reg Tryd.fn14_r1)
  (.trim [1, 2]))
 (.seq (.seq (.reg Tryd.fn14_r2)
  (.trim [2]))
 .ret))), true⟩
/-! signalbench/signalbenchref07.Core -/
def Tryd.fn15_r0 : List AIns :=
   [⟨(some 1), .box 23 (.t 0), .none⟩,
    ⟨(some 2), .alloc 23 [(.int .i64 0), (.int .i64 0), (.int .i64 0), (.int .i64 0), (.int .i64 0), (.str []), (.int .i64 0)], .none⟩]
def Tryd.fn15_r1 : List AIns :=
   [⟨(some 3), .fa 1 (.t 1), .none⟩,
    ⟨.none, .st 1 (.t 3) (.c (.int .i64 0)), .none⟩]
def Tryd.fn15_r2 : List AIns :=
   [⟨(some 4), .fa 2 (.t 1), .none⟩,
    ⟨.none, .st 1 (.t 4) (.c (.int .i64 0)), .none⟩]
def Tryd.fn15_r3 : List AIns :=
   [⟨(some 5), .ldn 7 (.t 1), .none⟩,
    ⟨.none, .st 7 (.t 2) (.t 5), .none⟩]
def Tryd.fn15 : AFun :=
 ⟨6, [.celln 2 7],
 (.seq (.seq (.reg Tryd.fn15_r0)
  (.trim [1, 2]))
 (.seq (.seq (.reg Tryd.fn15_r1)
  (.trim [1, 2]))
 (.seq (.seq (.reg Tryd.fn15_r2)
  (.trim [1, 2]))
 (.seq (.seq (.reg Tryd.fn15_r3)
  (.trim [2]))
 .ret)))), true⟩
/-! signalbench/signalbenchlaw07.small -/
def Tryd.fn16_r0 : List AIns :=
   [⟨(some 2), .mov (.c (.bool false)), .none⟩]
def Tryd.fn16_r1 : List AIns :=
   [⟨(some 4), .mov (.t 0), .none⟩,
     ⟨(some 5), .lenl (.t 4), .none⟩,
     ⟨(some 6), .bin .gtr (.t 5) (.c (.int .i64 40)), .none⟩]
def Tryd.fn16_r2 : List AIns :=
   [⟨(some 2), .mov (.c (.bool false)), .none⟩]
def Tryd.fn16_r3 : List AIns :=
   [⟨(some 3), .mov (.c (.int .i64 0)), .none⟩]
def Tryd.fn16_r4 : List AIns :=
   [⟨(some 7), .mov (.t 3), .none⟩,
        ⟨(some 8), .mov (.t 0), .none⟩,
        ⟨(some 9), .lenl (.t 8), .none⟩,
        ⟨(some 10), .bin .lss (.t 7) (.t 9), .none⟩]
def Tryd.fn16_r5 : List AIns :=
   [⟨(some 13), .mov (.t 0), .none⟩,
         ⟨(some 14), .mov (.t 3), .none⟩,
         ⟨(some 15), .ia 7 (.t 13) (.t 14), .none⟩,
         ⟨(some 16), .fa 5 (.t 15), .none⟩,
         ⟨(some 17), .ld1 (.t 16), .none⟩,
         ⟨(some 18), .lens (.t 17), .none⟩,
         ⟨(some 19), .bin .gtr (.t 18) (.c (.int .i64 300)), .none⟩]
def Tryd.fn16_r6 : List AIns :=
   [⟨(some 2), .mov (.c (.bool false)), .none⟩]
def Tryd.fn16_r7 : List AIns :=
   [⟨(some 11), .mov (.t 3), .none⟩,
      ⟨(some 12), .bin .add (.t 11) (.c (.int .i64 1)), .none⟩,
      ⟨(some 3), .mov (.t 12), .none⟩]
def Tryd.fn16_r8 : List AIns :=
   [⟨(some 2), .mov (.c (.bool true)), .none⟩]
def Tryd.fn16_l0 : ACode :=
 (.seq (.seq (.seq (.reg Tryd.fn16_r4)
      (.trim [0, 3, 10]))
     (.cond (.t 10)
      .skip
      (.exit 0)))
    (.seq (.block 1
      (.seq (.seq (.reg Tryd.fn16_r5)
       (.trim [0, 3, 19]))
      (.cond (.t 19)
       (.seq (.seq (.reg Tryd.fn16_r6)
        (.trim [2]))
       .ret)
       .skip)))
    (.seq (.reg Tryd.fn16_r7)
    (.trim [0, 3]))))
def Tryd.fn16 : AFun :=
 ⟨20, [.tmp 2],
 (.seq (.seq (.reg Tryd.fn16_r0)
  (.trim [0]))
 (.seq (.seq (.seq (.reg Tryd.fn16_r1)
   (.trim [0, 6]))
  (.cond (.t 6)
   (.seq (.seq (.reg Tryd.fn16_r2)
    (.trim [2]))
   .ret)
   .skip))
 (.seq (.seq (.seq (.reg Tryd.fn16_r3)
   (.trim [0, 3]))
  (.block 0
   (.loop (some [0, 3])
    Tryd.fn16_l0)))
 (.seq (.seq (.reg Tryd.fn16_r8)
  (.trim [2]))
 .ret)))), true⟩
/-! signalbench/event.Shift -/
def Tryd.fn17_r0 : List AIns :=
   [⟨(some 4), .mov (.c .nils), .none⟩,
    ⟨(some 5), .mov (.c (.int .i64 0)), .none⟩]
def Tryd.fn17_r1 : List AIns :=
   [⟨(some 10), .mov (.t 0), .none⟩,
     ⟨(some 11), .lenl (.t 10), .none⟩,
     ⟨(some 12), .mov (.c (.int .i64 0)), .none⟩]
def Tryd.fn17_r2 : List AIns :=
   [⟨(some 13), .bin .lss (.t 12) (.t 11), .none⟩]
def Tryd.fn17_r3 : List AIns :=
   [⟨(some 14), .ia 7 (.t 10) (.t 12), .none⟩,
         ⟨(some 15), .ldn 7 (.t 14), .none⟩,
         ⟨(some 7), .alloc 23 [(.int .i64 0), (.int .i64 0), (.int .i64 0), (.int .i64 0), (.int .i64 0), (.str []), (.int .i64 0)], .none⟩,
         ⟨.none, .st 7 (.t 7) (.t 15), .none⟩]
def Tryd.fn17_r4 : List AIns :=
   [⟨(some 16), .ldn 7 (.t 7), .none⟩,
         ⟨(some 17), .call 10 [(.t 16)], .none⟩,
         ⟨(some 18), .un .not (.t 17), .none⟩]
def Tryd.fn17_r5 : List AIns :=
   [⟨(some 4), .mov (.c .nils), .none⟩,
          ⟨(some 5), .mov (.c (.int .i64 1)), .none⟩]
def Tryd.fn17_r6 : List AIns :=
   [⟨(some 19), .bin .add (.t 12) (.c (.int .i64 1)), .none⟩,
      ⟨(some 12), .mov (.t 19), .none⟩]
def Tryd.fn17_r7 : List AIns :=
   [⟨(some 20), .mov (.t 0), .none⟩,
      ⟨(some 21), .lenl (.t 20), .none⟩,
      ⟨(some 22), .bin .gtr (.t 21) (.c (.int .i64 0)), .none⟩,
      ⟨(some 23), .mov (.t 22), .none⟩,
      ⟨(some 24), .mov (.t 1), (some (23, true))⟩,
      ⟨(some 25), .bin .lss (.t 24) (.c (.int .i64 (-1099511627776))), (some (23, true))⟩,
      ⟨(some 26), .mov (.t 25), (some (23, true))⟩,
      ⟨(some 27), .mov (.t 1), (some (26, false))⟩,
      ⟨(some 28), .bin .gtr (.t 27) (.c (.int .i64 1099511627776)), (some (26, false))⟩,
      ⟨(some 29), .pick (.t 26) (.c (.bool true)) (.t 28), (some (23, true))⟩]
def Tryd.fn17_r8 : List AIns :=
   [⟨(some 30), .pick (.t 23) (.t 29) (.c (.bool false)), .none⟩]
def Tryd.fn17_r9 : List AIns :=
   [⟨(some 4), .mov (.c .nils), .none⟩,
      ⟨(some 5), .mov (.c (.int .i64 2)), .none⟩]
def Tryd.fn17_r10 : List AIns :=
   [⟨(some 31), .mov (.t 0), .none⟩,
    ⟨(some 32), .call 28 [(.t 31)], .none⟩,
    ⟨(some 8), .mov (.t 32), .none⟩]
def Tryd.fn17_r11 : List AIns :=
   [⟨(some 33), .mov (.t 8), .none⟩,
     ⟨(some 34), .lenl (.t 33), .none⟩,
     ⟨(some 35), .mov (.c (.int .i64 0)), .none⟩]
def Tryd.fn17_r12 : List AIns :=
   [⟨(some 36), .bin .lss (.t 35) (.t 34), .none⟩]
def Tryd.fn17_r13 : List AIns :=
   [⟨(some 37), .mov (.t 35), .none⟩,
         ⟨(some 9), .mov (.t 37), .none⟩]
def Tryd.fn17_r14 : List AIns :=
   [⟨(some 38), .mov (.t 8), .none⟩,
         ⟨(some 39), .mov (.t 9), .none⟩,
         ⟨(some 40), .ia 7 (.t 38) (.t 39), .none⟩,
         ⟨(some 41), .fa 1 (.t 40), .none⟩,
         ⟨(some 42), .ld1 (.t 41), .none⟩,
         ⟨(some 43), .mov (.t 1), .none⟩,
         ⟨(some 44), .bin .add (.t 42) (.t 43), .none⟩,
         ⟨(some 45), .ia 7 (.t 38) (.t 39), .none⟩,
         ⟨(some 46), .fa 1 (.t 45), .none⟩,
         ⟨.none, .st 1 (.t 46) (.t 44), .none⟩]
def Tryd.fn17_r15 : List AIns :=
   [⟨(some 47), .mov (.t 8), .none⟩,
         ⟨(some 48), .mov (.t 9), .none⟩,
         ⟨(some 49), .ia 7 (.t 47) (.t 48), .none⟩,
         ⟨(some 50), .fa 2 (.t 49), .none⟩,
         ⟨(some 51), .ld1 (.t 50), .none⟩,
         ⟨(some 52), .mov (.t 1), .none⟩,
         ⟨(some 53), .bin .add (.t 51) (.t 52), .none⟩,
         ⟨(some 54), .ia 7 (.t 47) (.t 48), .none⟩,
         ⟨(some 55), .fa 2 (.t 54), .none⟩,
         ⟨.none, .st 1 (.t 55) (.t 53), .none⟩]
def Tryd.fn17_r16 : List AIns :=
   [⟨(some 56), .mov (.t 8), .none⟩,
         ⟨(some 57), .mov (.t 9), .none⟩,
         ⟨(some 58), .ia 7 (.t 56) (.t 57), .none⟩,
         ⟨(some 59), .ldn 7 (.t 58), .none⟩,
         ⟨(some 60), .call 10 [(.t 59)], .none⟩,
         ⟨(some 61), .un .not (.t 60), .none⟩]
def Tryd.fn17_r17 : List AIns :=
   [⟨(some 4), .mov (.c .nils), .none⟩,
          ⟨(some 5), .mov (.c (.int .i64 2)), .none⟩]
def Tryd.fn17_r18 : List AIns :=
   [⟨(some 62), .bin .add (.t 35) (.c (.int .i64 1)), .none⟩,
      ⟨(some 35), .mov (.t 62), .none⟩]
def Tryd.fn17_r19 : List AIns :=
   [⟨(some 63), .mov (.t 8), .none⟩,
    ⟨(some 4), .mov (.t 63), .none⟩,
    ⟨(some 5), .mov (.c (.int .i64 0)), .none⟩]
def Tryd.fn17_l0 : ACode :=
 (.seq (.seq (.reg Tryd.fn17_r12)
     (.trim [1, 8, 34, 35, 36]))
    (.seq (.cond (.t 36)
      .skip
      (.exit 2))
    (.seq (.block 3
      (.seq (.seq (.reg Tryd.fn17_r13)
       (.trim [1, 8, 9, 34, 35]))
      (.seq (.seq (.reg Tryd.fn17_r14)
       (.trim [1, 8, 9, 34, 35]))
      (.seq (.seq (.reg Tryd.fn17_r15)
       (.trim [1, 8, 9, 34, 35]))
      (.seq (.seq (.reg Tryd.fn17_r16)
       (.trim [1, 8, 34, 35, 61]))
      (.cond (.t 61)
       (.seq (.seq (.reg Tryd.fn17_r17)
        (.trim [4, 5]))
       .ret)
       .skip))))))
    (.seq (.reg Tryd.fn17_r18)
    (.trim [1, 8, 34, 35])))))
def Tryd.fn17_l1 : ACode :=
 (.seq (.seq (.reg Tryd.fn17_r2)
     (.trim [0, 1, 10, 11, 12, 13]))
    (.seq (.cond (.t 13)
      .skip
      (.exit 0))
    (.seq (.block 1
      (.seq (.seq (.reg Tryd.fn17_r3)
       (.trim [0, 1, 7, 10, 11, 12]))
      (.seq (.seq (.reg Tryd.fn17_r4)
       (.trim [0, 1, 10, 11, 12, 18]))
      (.cond (.t 18)
       (.seq (.seq (.reg Tryd.fn17_r5)
        (.trim [4, 5]))
       .ret)
       .skip))))
    (.seq (.reg Tryd.fn17_r6)
    (.trim [0, 1, 10, 11, 12])))))
def Tryd.fn17 : AFun :=
 ⟨64, [.tmp 4, .tmp 5],
 (.seq (.seq (.reg Tryd.fn17_r0)
  (.trim [0, 1]))
 (.seq (.seq (.seq (.reg Tryd.fn17_r1)
   (.trim [0, 1, 10, 11, 12]))
  (.block 0
   (.loop (some [0, 1, 10, 11, 12])
    Tryd.fn17_l1)))
 (.seq (.seq (.seq (.seq (.reg Tryd.fn17_r7)
    (.trim [0, 1, 23, 29]))
   (.seq (.reg Tryd.fn17_r8)
   (.trim [0, 1, 30])))
  (.cond (.t 30)
   (.seq (.seq (.reg Tryd.fn17_r9)
    (.trim [4, 5]))
   .ret)
   .skip))
 (.seq (.seq (.reg Tryd.fn17_r10)
  (.trim [1, 8]))
 (.seq (.seq (.seq (.reg Tryd.fn17_r11)
   (.trim [1, 8, 34, 35]))
  (.block 2
   (.loop (some [1, 8, 34, 35])
    Tryd.fn17_l0)))
 (.seq (.seq (.reg Tryd.fn17_r19)
  (.trim [4, 5]))
 .ret)))))), true⟩
/-! signalbench/signalbenchref07.Shift -/
def Tryd.fn18_r0 : List AIns :=
   [⟨(some 4), .mov (.c .nils), .none⟩,
    ⟨(some 5), .mov (.c (.int .i64 0)), .none⟩]
def Tryd.fn18_r1 : List AIns :=
   [⟨(some 6), .mov (.c (.int .i64 0)), .none⟩]
def Tryd.fn18_r2 : List AIns :=
   [⟨(some 10), .mov (.t 6), .none⟩,
        ⟨(some 11), .mov (.t 0), .none⟩,
        ⟨(some 12), .lenl (.t 11), .none⟩,
        ⟨(some 13), .bin .lss (.t 10) (.t 12), .none⟩]
def Tryd.fn18_r3 : List AIns :=
   [⟨(some 16), .mov (.t 0), .none⟩,
         ⟨(some 17), .mov (.t 6), .none⟩,
         ⟨(some 18), .ia 7 (.t 16) (.t 17), .none⟩,
         ⟨(some 19), .ldn 7 (.t 18), .none⟩,
         ⟨(some 20), .call 11 [(.t 19)], .none⟩,
         ⟨(some 21), .un .not (.t 20), .none⟩]
def Tryd.fn18_r4 : List AIns :=
   [⟨(some 4), .mov (.c .nils), .none⟩,
          ⟨(some 5), .mov (.c (.int .i64 1)), .none⟩]
def Tryd.fn18_r5 : List AIns :=
   [⟨(some 14), .mov (.t 6), .none⟩,
      ⟨(some 15), .bin .add (.t 14) (.c (.int .i64 1)), .none⟩,
      ⟨(some 6), .mov (.t 15), .none⟩]
def Tryd.fn18_r6 : List AIns :=
   [⟨(some 22), .mov (.t 0), .none⟩,
      ⟨(some 23), .lenl (.t 22), .none⟩,
      ⟨(some 24), .bin .gtr (.t 23) (.c (.int .i64 0)), .none⟩,
      ⟨(some 25), .mov (.t 24), .none⟩,
      ⟨(some 26), .mov (.t 1), (some (25, true))⟩,
      ⟨(some 27), .bin .lss (.t 26) (.c (.int .i64 (-1099511627776))), (some (25, true))⟩,
      ⟨(some 28), .mov (.t 27), (some (25, true))⟩,
      ⟨(some 29), .mov (.t 1), (some (28, false))⟩,
      ⟨(some 30), .bin .gtr (.t 29) (.c (.int .i64 1099511627776)), (some (28, false))⟩,
      ⟨(some 31), .pick (.t 28) (.c (.bool true)) (.t 30), (some (25, true))⟩]
def Tryd.fn18_r7 : List AIns :=
   [⟨(some 32), .pick (.t 25) (.t 31) (.c (.bool false)), .none⟩]
def Tryd.fn18_r8 : List AIns :=
   [⟨(some 4), .mov (.c .nils), .none⟩,
      ⟨(some 5), .mov (.c (.int .i64 2)), .none⟩]
def Tryd.fn18_r9 : List AIns :=
   [⟨(some 33), .bsl 23 7 0 [(.int .i64 0), (.int .i64 0), (.int .i64 0), (.int .i64 0), (.int .i64 0), (.str []), (.int .i64 0)] [], .none⟩,
    ⟨(some 7), .mov (.t 33), .none⟩]
def Tryd.fn18_r10 : List AIns :=
   [⟨(some 8), .mov (.c (.int .i64 0)), .none⟩]
def Tryd.fn18_r11 : List AIns :=
   [⟨(some 34), .mov (.t 8), .none⟩,
        ⟨(some 35), .mov (.t 0), .none⟩,
        ⟨(some 36), .lenl (.t 35), .none⟩,
        ⟨(some 37), .bin .lss (.t 34) (.t 36), .none⟩]
def Tryd.fn18_r12 : List AIns :=
   [⟨(some 40), .mov (.t 0), .none⟩,
         ⟨(some 41), .mov (.t 8), .none⟩,
         ⟨(some 42), .ia 7 (.t 40) (.t 41), .none⟩,
         ⟨(some 43), .ldn 7 (.t 42), .none⟩,
         ⟨(some 9), .alloc 23 [(.int .i64 0), (.int .i64 0), (.int .i64 0), (.int .i64 0), (.int .i64 0), (.str []), (.int .i64 0)], .none⟩,
         ⟨.none, .st 7 (.t 9) (.t 43), .none⟩]
def Tryd.fn18_r13 : List AIns :=
   [⟨(some 44), .fa 1 (.t 9), .none⟩,
         ⟨(some 45), .ld1 (.t 44), .none⟩,
         ⟨(some 46), .mov (.t 1), .none⟩,
         ⟨(some 47), .bin .add (.t 45) (.t 46), .none⟩,
         ⟨(some 48), .fa 1 (.t 9), .none⟩,
         ⟨.none, .st 1 (.t 48) (.t 47), .none⟩]
def Tryd.fn18_r14 : List AIns :=
   [⟨(some 49), .fa 2 (.t 9), .none⟩,
         ⟨(some 50), .ld1 (.t 49), .none⟩,
         ⟨(some 51), .mov (.t 1), .none⟩,
         ⟨(some 52), .bin .add (.t 50) (.t 51), .none⟩,
         ⟨(some 53), .fa 2 (.t 9), .none⟩,
         ⟨.none, .st 1 (.t 53) (.t 52), .none⟩]
def Tryd.fn18_r15 : List AIns :=
   [⟨(some 54), .ldn 7 (.t 9), .none⟩,
          ⟨(some 55), .call 11 [(.t 54)], .none⟩,
          ⟨(some 56), .un .not (.t 55), .none⟩]
def Tryd.fn18_r16 : List AIns :=
   [⟨(some 4), .mov (.c .nils), .none⟩,
           ⟨(some 5), .mov (.c (.int .i64 2)), .none⟩]
def Tryd.fn18_r17 : List AIns :=
   [⟨(some 57), .mov (.t 7), .none⟩,
        ⟨(some 58), .ldn 7 (.t 9), .none⟩,
        ⟨(some 59), .bsl 23 7 1 [(.int .i64 0), (.int .i64 0), (.int .i64 0), (.int .i64 0), (.int .i64 0), (.str []), (.int .i64 0)] [(0, 7, (.t 58))], .none⟩,
        ⟨(some 60), .app 23 7 64 (.t 57) (.t 59), .none⟩,
        ⟨(some 7), .mov (.t 60), .none⟩]
def Tryd.fn18_r18 : List AIns :=
   [⟨(some 38), .mov (.t 8), .none⟩,
      ⟨(some 39), .bin .add (.t 38) (.c (.int .i64 1)), .none⟩,
      ⟨(some 8), .mov (.t 39), .none⟩]
def Tryd.fn18_r19 : List AIns :=
   [⟨(some 61), .mov (.t 7), .none⟩,
    ⟨(some 4), .mov (.t 61), .none⟩,
    ⟨(some 5), .mov (.c (.int .i64 0)), .none⟩]
def Tryd.fn18_l0 : ACode :=
 (.seq (.seq (.seq (.reg Tryd.fn18_r11)
      (.trim [0, 1, 7, 8, 37]))
     (.cond (.t 37)
      .skip
      (.exit 2)))
    (.seq (.block 3
      (.seq (.seq (.reg Tryd.fn18_r12)
       (.trim [0, 1, 7, 8, 9]))
      (.seq (.seq (.reg Tryd.fn18_r13)
       (.trim [0, 1, 7, 8, 9]))
      (.seq (.seq (.reg Tryd.fn18_r14)
       (.trim [0, 1, 7, 8, 9]))
      (.seq (.seq (.seq (.reg Tryd.fn18_r15)
        (.trim [0, 1, 7, 8, 9, 56]))
       (.cond (.t 56)
        (.seq (.seq (.reg Tryd.fn18_r16)
         (.trim [4, 5]))
        .ret)
        .skip))
      (.seq (.reg Tryd.fn18_r17)
      (.trim [0, 1, 7, 8])))))))
    (.seq (.reg Tryd.fn18_r18)
    (.trim [0, 1, 7, 8]))))
def Tryd.fn18_l1 : ACode :=
 (.seq (.seq (.seq (.reg Tryd.fn18_r2)
      (.trim [0, 1, 6, 13]))
     (.cond (.t 13)
      .skip
      (.exit 0)))
    (.seq (.block 1
      (.seq (.seq (.reg Tryd.fn18_r3)
       (.trim [0, 1, 6, 21]))
      (.cond (.t 21)
       (.seq (.seq (.reg Tryd.fn18_r4)
        (.trim [4, 5]))
       .ret)
       .skip)))
    (.seq (.reg Tryd.fn18_r5)
    (.trim [0, 1, 6]))))
def Tryd.fn18 : AFun :=
 ⟨62, [.tmp 4, .tmp 5],
 (.seq (.seq (.reg Tryd.fn18_r0)
  (.trim [0, 1]))
 (.seq (.seq (.seq (.reg Tryd.fn18_r1)
   (.trim [0, 1, 6]))
  (.block 0
   (.loop (some [0, 1, 6])
    Tryd.fn18_l1)))
 (.seq (.seq (.seq (.seq (.reg Tryd.fn18_r6)
    (.trim [0, 1, 25, 31]))
   (.seq (.reg Tryd.fn18_r7)
   (.trim [0, 1, 32])))
  (.cond (.t 32)
   (.seq (.seq (.reg Tryd.fn18_r8)
    (.trim [4, 5]))
   .ret)
   .skip))
 (.seq (.seq (.reg Tryd.fn18_r9)
  (.trim [0, 1, 7]))
 (.seq (.seq (.seq (.reg Tryd.fn18_r10)
   (.trim [0, 1, 7, 8]))
  (.block 2
   (.loop (some [0, 1, 7, 8])
    Tryd.fn18_l0)))
 (.seq (.seq (.reg Tryd.fn18_r19)
  (.trim [4, 5]))
 .ret)))))), true⟩
/-! signalbench/signalbenchref07.Same -/
def Tryd.fn19_r0 : List AIns :=
   [⟨(some 4), .mov (.c (.bool false)), .none⟩]
def Tryd.fn19_r1 : List AIns :=
   [⟨(some 6), .mov (.t 0), .none⟩,
     ⟨(some 7), .lenl (.t 6), .none⟩,
     ⟨(some 8), .mov (.t 1), .none⟩,
     ⟨(some 9), .lenl (.t 8), .none⟩,
     ⟨(some 10), .bin .neq (.t 7) (.t 9), .none⟩]
def Tryd.fn19_r2 : List AIns :=
   [⟨(some 4), .mov (.c (.bool false)), .none⟩]
def Tryd.fn19_r3 : List AIns :=
   [⟨(some 5), .mov (.c (.int .i64 0)), .none⟩]
def Tryd.fn19_r4 : List AIns :=
   [⟨(some 11), .mov (.t 5), .none⟩,
        ⟨(some 12), .mov (.t 0), .none⟩,
        ⟨(some 13), .lenl (.t 12), .none⟩,
        ⟨(some 14), .bin .lss (.t 11) (.t 13), .none⟩]
def Tryd.fn19_r5a : List DIns :=
   ⟨⟨(some 23), .ia 7 (.t 21) (.t 22), .none⟩, [4, 5], [7, 8], 0⟩ ::
   ⟨⟨(some 24), .ldn 7 (.t 23), .none⟩, [6, 4, 5], [8], 1⟩ ::
   ⟨⟨(some 25), .eqv true false (.st [(0, .none, .int), (1, .none, .int), (2, .none, .int), (3, .none, .int), (4, .none, .int), (5, .none, .str), (6, .none, .int)]) (.t 20) (.t 24), .none⟩, [3, 7, 2, 0, 1, 6, 4, 5], [], 0⟩ ::
   []
def Tryd.fn19_r5 : List DIns :=
   ⟨⟨(some 17), .mov (.t 0), .none⟩, [], [2, 3, 8], 0⟩ ::
   ⟨⟨(some 18), .mov (.t 5), .none⟩, [], [2, 3, 8], 0⟩ ::
   ⟨⟨(some 19), .ia 7 (.t 17) (.t 18), .none⟩, [0, 1], [3, 8], 0⟩ ::
   ⟨⟨(some 20), .ldn 7 (.t 19), .none⟩, [2, 0, 1], [8], 1⟩ ::
   ⟨⟨(some 21), .mov (.t 1), .none⟩, [], [6, 7, 8], 0⟩ ::
   ⟨⟨(some 22), .mov (.t 5), .none⟩, [], [6, 7, 8], 0⟩ ::
   Tryd.fn19_r5a
def Tryd.fn19_r6 : List AIns :=
   [⟨(some 4), .mov (.c (.bool false)), .none⟩]
def Tryd.fn19_r7 : List AIns :=
   [⟨(some 15), .mov (.t 5), .none⟩,
      ⟨(some 16), .bin .add (.t 15) (.c (.int .i64 1)), .none⟩,
      ⟨(some 5), .mov (.t 16), .none⟩]
def Tryd.fn19_r8 : List AIns :=
   [⟨(some 4), .mov (.c (.bool true)), .none⟩]
def Tryd.fn19_l0 : ACode :=
 (.seq (.seq (.seq (.reg Tryd.fn19_r4)
      (.trim [0, 1, 5, 14]))
     (.cond (.t 14)
      .skip
      (.exit 0)))
    (.seq (.block 1
      (.seq (.seq (.regd Tryd.fn19_r5)
       (.trim [0, 1, 5, 25]))
      (.cond (.t 25)
       (.seq (.seq (.reg Tryd.fn19_r6)
        (.trim [4]))
       .ret)
       .skip)))
    (.seq (.reg Tryd.fn19_r7)
    (.trim [0, 1, 5]))))
def Tryd.fn19 : AFun :=
 ⟨26, [.tmp 4],
 (.seq (.seq (.reg Tryd.fn19_r0)
  (.trim [0, 1]))
 (.seq (.seq (.seq (.reg Tryd.fn19_r1)
   (.trim [0, 1, 10]))
  (.cond (.t 10)
   (.seq (.seq (.reg Tryd.fn19_r2)
    (.trim [4]))
   .ret)
   .skip))
 (.seq (.seq (.seq (.reg Tryd.fn19_r3)
   (.trim [0, 1, 5]))
  (.block 0
   (.loop (some [0, 1, 5])
    Tryd.fn19_l0)))
 (.seq (.seq (.reg Tryd.fn19_r8)
  (.trim [4]))
 .ret)))), true⟩
/-! signalbench/event.Clip -/
def Tryd.fn20_r0 : List AIns :=
   [⟨(some 3), .box 30 (.t 1), .none⟩,
    ⟨(some 4), .mov (.c .nils), .none⟩]
def Tryd.fn20_r1 : List AIns :=
   [⟨(some 5), .mov (.c .nils), .none⟩]
def Tryd.fn20_r2 : List AIns :=
   [⟨(some 8), .mov (.t 0), .none⟩,
     ⟨(some 9), .lenl (.t 8), .none⟩,
     ⟨(some 10), .mov (.c (.int .i64 0)), .none⟩]
def Tryd.fn20_r3 : List AIns :=
   [⟨(some 11), .bin .lss (.t 10) (.t 9), .none⟩]
def Tryd.fn20_r4 : List AIns :=
   [⟨(some 12), .ia 7 (.t 8) (.t 10), .none⟩,
         ⟨(some 13), .ldn 7 (.t 12), .none⟩,
         ⟨(some 7), .alloc 23 [(.int .i64 0), (.int .i64 0), (.int .i64 0), (.int .i64 0), (.int .i64 0), (.str []), (.int .i64 0)], .none⟩,
         ⟨.none, .st 7 (.t 7) (.t 13), .none⟩]
def Tryd.fn20_r5 : List AIns :=
   [⟨(some 14), .fa 0 (.t 3), .none⟩,
          ⟨(some 15), .ld1 (.t 14), .none⟩,
          ⟨(some 16), .fa 1 (.t 7), .none⟩,
          ⟨(some 17), .ld1 (.t 16), .none⟩,
          ⟨(some 18), .bin .leq (.t 15) (.t 17), .none⟩,
          ⟨(some 19), .mov (.t 18), .none⟩,
          ⟨(some 20), .fa 2 (.t 7), (some (19, true))⟩,
          ⟨(some 21), .ld1 (.t 20), (some (19, true))⟩,
          ⟨(some 22), .fa 1 (.t 3), (some (19, true))⟩,
          ⟨(some 23), .ld1 (.t 22), (some (19, true))⟩]
def Tryd.fn20_r6 : List AIns :=
   [⟨(some 24), .bin .leq (.t 21) (.t 23), (some (19, true))⟩,
         ⟨(some 25), .pick (.t 19) (.t 24) (.c (.bool false)), .none⟩]
def Tryd.fn20_r7 : List AIns :=
   [⟨(some 26), .mov (.t 5), .none⟩,
         ⟨(some 27), .ldn 7 (.t 7), .none⟩,
         ⟨(some 28), .bsl 23 7 1 [(.int .i64 0), (.int .i64 0), (.int .i64 0), (.int .i64 0), (.int .i64 0), (.str []), (.int .i64 0)] [(0, 7, (.t 27))], .none⟩,
         ⟨(some 29), .app 23 7 64 (.t 26) (.t 28), .none⟩,
         ⟨(some 5), .mov (.t 29), .none⟩]
def Tryd.fn20_r8 : List AIns :=
   [⟨(some 30), .bin .add (.t 10) (.c (.int .i64 1)), .none⟩,
      ⟨(some 10), .mov (.t 30), .none⟩]
def Tryd.fn20_r9 : List AIns :=
   [⟨(some 31), .mov (.t 5), .none⟩,
    ⟨(some 4), .mov (.t 31), .none⟩]
def Tryd.fn20_l0 : ACode :=
 (.seq (.seq (.reg Tryd.fn20_r3)
     (.trim [3, 5, 8, 9, 10, 11]))
    (.seq (.cond (.t 11)
      .skip
      (.exit 0))
    (.seq (.block 1
      (.seq (.seq (.reg Tryd.fn20_r4)
       (.trim [3, 5, 7, 8, 9, 10]))
      (.seq (.seq (.seq (.reg Tryd.fn20_r5)
        (.trim [3, 5, 7, 8, 9, 10, 19, 21, 23]))
       (.seq (.reg Tryd.fn20_r6)
       (.trim [3, 5, 7, 8, 9, 10, 25])))
      (.cond (.t 25)
       (.seq (.reg Tryd.fn20_r7)
       (.trim [3, 5, 8, 9, 10]))
       .skip))))
    (.seq (.reg Tryd.fn20_r8)
    (.trim [3, 5, 8, 9, 10])))))
def Tryd.fn20 : AFun :=
 ⟨32, [.tmp 4],
 (.seq (.seq (.reg Tryd.fn20_r0)
  (.trim [0, 3]))
 (.seq (.seq (.reg Tryd.fn20_r1)
  (.trim [0, 3, 5]))
 (.seq (.seq (.seq (.reg Tryd.fn20_r2)
   (.trim [3, 5, 8, 9, 10]))
  (.block 0
   (.loop (some [3, 5, 8, 9, 10])
    Tryd.fn20_l0)))
 (.seq (.seq (.reg Tryd.fn20_r9)
  (.trim [4]))
 .ret)))), true⟩
/-! signalbench/signalbenchref07.Clip -/
def Tryd.fn21_r0 : List AIns :=
   [⟨(some 3), .box 30 (.t 1), .none⟩,
    ⟨(some 4), .mov (.c .nils), .none⟩]
def Tryd.fn21_r1 : List AIns :=
   [⟨(some 7), .bsl 23 7 0 [(.int .i64 0), (.int .i64 0), (.int .i64 0), (.int .i64 0), (.int .i64 0), (.str []), (.int .i64 0)] [], .none⟩,
    ⟨(some 5), .mov (.t 7), .none⟩]
def Tryd.fn21_r2 : List AIns :=
   [⟨(some 6), .mov (.c (.int .i64 0)), .none⟩]
def Tryd.fn21_r3 : List AIns :=
   [⟨(some 8), .mov (.t 6), .none⟩,
        ⟨(some 9), .mov (.t 0), .none⟩,
        ⟨(some 10), .lenl (.t 9), .none⟩,
        ⟨(some 11), .bin .lss (.t 8) (.t 10), .none⟩]
def Tryd.fn21_r4b : List DIns :=
   ⟨⟨(some 26), .fa 2 (.t 25), (some (22, true))⟩, [11, 8, 9, 10, 7, 1, 6, 0, 5, 4, 2, 3], [13, 16, 17], 0⟩ ::
   ⟨⟨(some 27), .ld1 (.t 26), (some (22, true))⟩, [12, 8, 11, 9, 10, 7, 1, 6, 0, 5, 4, 2, 3], [16, 17], 1⟩ ::
   ⟨⟨(some 28), .fa 1 (.t 3), (some (22, true))⟩, [8, 7, 1, 6, 0, 5, 4, 2, 3], [15, 16, 17], 0⟩ ::
   ⟨⟨(some 29), .ld1 (.t 28), (some (22, true))⟩, [14, 8, 7, 1, 6, 0, 5, 4, 2, 3], [16, 17], 1⟩ ::
   ⟨⟨(some 30), .bin .leq (.t 27) (.t 29), (some (22, true))⟩, [13, 15, 8, 12, 11, 9, 10, 7, 1, 6, 0, 5, 4, 2, 3, 14], [17], 0⟩ ::
   ⟨⟨(some 31), .pick (.t 22) (.t 30) (.c (.bool false)), .none⟩, [8, 16, 7, 1, 6, 0, 5, 4, 2, 3, 13, 15, 12, 11, 9, 10, 14], [], 0⟩ ::
   []
def Tryd.fn21_r4a : List DIns :=
   ⟨⟨(some 20), .ld1 (.t 19), .none⟩, [5, 4, 2, 3], [7, 8, 9, 10, 11, 12, 13, 14, 15, 16, 17], 1⟩ ::
   ⟨⟨(some 21), .bin .leq (.t 15) (.t 20), .none⟩, [1, 6, 0, 5, 4, 2, 3], [8, 9, 10, 11, 12, 13, 14, 15, 16, 17], 0⟩ ::
   ⟨⟨(some 22), .mov (.t 21), .none⟩, [7, 1, 6, 0, 5, 4, 2, 3], [9, 10, 11, 12, 13, 14, 15, 16, 17], 0⟩ ::
   ⟨⟨(some 23), .mov (.t 0), (some (22, true))⟩, [8, 7, 1, 6, 0, 5, 4, 2, 3], [11, 12, 13, 16, 17], 0⟩ ::
   ⟨⟨(some 24), .mov (.t 6), (some (22, true))⟩, [8, 7, 1, 6, 0, 5, 4, 2, 3], [11, 12, 13, 16, 17], 0⟩ ::
   ⟨⟨(some 25), .ia 7 (.t 23) (.t 24), (some (22, true))⟩, [9, 10, 8, 7, 1, 6, 0, 5, 4, 2, 3], [12, 13, 16, 17], 0⟩ ::
   Tryd.fn21_r4b
def Tryd.fn21_r4 : List DIns :=
   ⟨⟨(some 14), .fa 0 (.t 3), .none⟩, [], [1, 7, 8, 9, 10, 11, 12, 13, 14, 15, 16, 17], 0⟩ ::
   ⟨⟨(some 15), .ld1 (.t 14), .none⟩, [0], [7, 8, 9, 10, 11, 12, 13, 14, 15, 16, 17], 1⟩ ::
   ⟨⟨(some 16), .mov (.t 0), .none⟩, [], [4, 5, 6, 7, 8, 9, 10, 11, 12, 13, 14, 15, 16, 17], 0⟩ ::
   ⟨⟨(some 17), .mov (.t 6), .none⟩, [], [4, 5, 6, 7, 8, 9, 10, 11, 12, 13, 14, 15, 16, 17], 0⟩ ::
   ⟨⟨(some 18), .ia 7 (.t 16) (.t 17), .none⟩, [2, 3], [5, 6, 7, 8, 9, 10, 11, 12, 13, 14, 15, 16, 17], 0⟩ ::
   ⟨⟨(some 19), .fa 1 (.t 18), .none⟩, [4, 2, 3], [6, 7, 8, 9, 10, 11, 12, 13, 14, 15, 16, 17], 0⟩ ::
   Tryd.fn21_r4a
def Tryd.fn21_r5 : List AIns :=
   [⟨(some 32), .mov (.t 5), .none⟩,
         ⟨(some 33), .mov (.t 0), .none⟩,
         ⟨(some 34), .mov (.t 6), .none⟩,
         ⟨(some 35), .ia 7 (.t 33) (.t 34), .none⟩,
         ⟨(some 36), .ldn 7 (.t 35), .none⟩,
         ⟨(some 37), .bsl 23 7 1 [(.int .i64 0), (.int .i64 0), (.int .i64 0), (.int .i64 0), (.int .i64 0), (.str []), (.int .i64 0)] [(0, 7, (.t 36))], .none⟩,
         ⟨(some 38), .app 23 7 64 (.t 32) (.t 37), .none⟩,
         ⟨(some 5), .mov (.t 38), .none⟩]
def Tryd.fn21_r6 : List AIns :=
   [⟨(some 12), .mov (.t 6), .none⟩,
      ⟨(some 13), .bin .add (.t 12) (.c (.int .i64 1)), .none⟩,
      ⟨(some 6), .mov (.t 13), .none⟩]
def Tryd.fn21_r7 : List AIns :=
   [⟨(some 39), .mov (.t 5), .none⟩,
    ⟨(some 4), .mov (.t 39), .none⟩]
def Tryd.fn21_l0 : ACode :=
 (.seq (.seq (.seq (.reg Tryd.fn21_r3)
      (.trim [0, 3, 5, 6, 11]))
     (.cond (.t 11)
      .skip
      (.exit 0)))
    (.seq (.block 1
      (.seq (.seq (.regd Tryd.fn21_r4)
       (.trim [0, 3, 5, 6, 31]))
      (.cond (.t 31)
       (.seq (.reg Tryd.fn21_r5)
       (.trim [0, 3, 5, 6]))
       .skip)))
    (.seq (.reg Tryd.fn21_r6)
    (.trim [0, 3, 5, 6]))))
def Tryd.fn21 : AFun :=
 ⟨40, [.tmp 4],
 (.seq (.seq (.reg Tryd.fn21_r0)
  (.trim [0, 3]))
 (.seq (.seq (.reg Tryd.fn21_r1)
  (.trim [0, 3, 5]))
 (.seq (.seq (.seq (.reg Tryd.fn21_r2)
   (.trim [0, 3, 5, 6]))
  (.block 0
   (.loop (some [0, 3, 5, 6])
    Tryd.fn21_l0)))
 (.seq (.seq (.reg Tryd.fn21_r7)
  (.trim [4]))
 .ret)))), true⟩
/-! signalbench/event.Line -/
def Tryd.fn22_r0 : List AIns :=
   [⟨(some 1), .box 23 (.t 0), .none⟩,
    ⟨(some 2), .mov (.c (.str [])), .none⟩,
    ⟨(some 3), .mov (.c (.int .i64 0)), .none⟩]
def Tryd.fn22_r1 : List AIns :=
   [⟨(some 7), .ldn 7 (.t 1), .none⟩,
     ⟨(some 8), .call 10 [(.t 7)], .none⟩,
     ⟨(some 9), .un .not (.t 8), .none⟩]
def Tryd.fn22_r2 : List AIns :=
   [⟨(some 2), .mov (.c (.str [])), .none⟩,
      ⟨(some 3), .mov (.c (.int .i64 1)), .none⟩]
def Tryd.fn22_r3 : List DIns :=
   [⟨⟨(some 10), .call 29 [], .none⟩, [], [4, 5, 6, 7], 1⟩,
    ⟨⟨(some 11), .fa 0 (.t 1), .none⟩, [], [2, 3, 4, 5, 6, 7], 0⟩,
    ⟨⟨(some 12), .ld1 (.t 11), .none⟩, [1], [3, 4, 5, 6, 7], 1⟩,
    ⟨⟨(some 13), .bin .sub (.t 12) (.c (.int .i64 1)), .none⟩, [2, 1], [4, 5, 6, 7], 0⟩,
    ⟨⟨(some 14), .ia 1 (.t 10) (.t 13), .none⟩, [0, 3, 2, 1], [5, 6, 7], 0⟩,
    ⟨⟨(some 15), .ld1 (.t 14), .none⟩, [4, 0, 3, 2, 1], [6, 7], 2⟩,
    ⟨⟨(some 16), .bsl 9 1 1 [(.str [])] [(0, 1, (.t 15))], .none⟩, [5, 4, 0, 3, 2, 1], [7], 2⟩,
    ⟨⟨(some 4), .mov (.t 16), .none⟩, [6, 0, 1, 2, 3, 4, 5], [], 0⟩]
def Tryd.fn22_r4 : List AIns :=
   [⟨(some 17), .fa 1 (.t 1), .none⟩,
      ⟨(some 18), .ld1 (.t 17), .none⟩,
      ⟨(some 19), .fa 2 (.t 1), .none⟩,
      ⟨(some 20), .ld1 (.t 19), .none⟩,
      ⟨(some 21), .fa 3 (.t 1), .none⟩,
      ⟨(some 22), .ld1 (.t 21), .none⟩,
      ⟨(some 23), .fa 4 (.t 1), .none⟩,
      ⟨(some 24), .ld1 (.t 23), .none⟩,
      ⟨(some 25), .fa 6 (.t 1), .none⟩,
      ⟨(some 26), .ld1 (.t 25), .none⟩]
def Tryd.fn22_r5 : List AIns :=
   [⟨(some 27), .bsl 3 1 5 [(.int .i64 0)] [(0, 1, (.t 18)), (1, 1, (.t 20)), (2, 1, (.t 22)), (3, 1, (.t 24)), (4, 1, (.t 26))], .none⟩,
     ⟨(some 28), .lenl (.t 27), .none⟩,
     ⟨(some 29), .mov (.c (.int .i64 0)), .none⟩]
def Tryd.fn22_r6 : List AIns :=
   [⟨(some 30), .bin .lss (.t 29) (.t 28), .none⟩]
def Tryd.fn22_r7 : List AIns :=
   [⟨(some 31), .ia 1 (.t 27) (.t 29), .none⟩,
         ⟨(some 32), .ld1 (.t 31), .none⟩,
         ⟨(some 6), .mov (.t 32), .none⟩]
def Tryd.fn22_r8 : List AIns :=
   [⟨(some 33), .mov (.t 4), .none⟩,
        ⟨(some 34), .mov (.t 6), .none⟩,
        ⟨(some 35), .call 30 [(.t 34)], .none⟩,
        ⟨(some 36), .bsl 9 1 1 [(.str [])] [(0, 1, (.t 35))], .none⟩,
        ⟨(some 37), .app 9 1 16 (.t 33) (.t 36), .none⟩,
        ⟨(some 4), .mov (.t 37), .none⟩]
def Tryd.fn22_r9 : List AIns :=
   [⟨(some 38), .bin .add (.t 29) (.c (.int .i64 1)), .none⟩,
      ⟨(some 29), .mov (.t 38), .none⟩]
def Tryd.fn22_r10 : List AIns :=
   [⟨(some 39), .mov (.t 4), .none⟩,
    ⟨(some 40), .fa 5 (.t 1), .none⟩,
    ⟨(some 41), .ld1 (.t 40), .none⟩,
    ⟨(some 42), .call 32 [(.t 41)], .none⟩,
    ⟨(some 43), .bsl 9 1 1 [(.str [])] [(0, 1, (.t 42))], .none⟩,
    ⟨(some 44), .app 9 1 16 (.t 39) (.t 43), .none⟩,
    ⟨(some 45), .call 31 [(.t 44), (.c (.str [32]))], .none⟩,
    ⟨(some 2), .mov (.t 45), .none⟩,
    ⟨(some 3), .mov (.c (.int .i64 0)), .none⟩]
def Tryd.fn22_l0 : ACode :=
 (.seq (.seq (.reg Tryd.fn22_r6)
     (.trim [1, 4, 27, 28, 29, 30]))
    (.seq (.cond (.t 30)
      .skip
      (.exit 0))
    (.seq (.block 1
      (.seq (.seq (.reg Tryd.fn22_r7)
       (.trim [1, 4, 6, 27, 28, 29]))
      (.seq (.reg Tryd.fn22_r8)
      (.trim [1, 4, 27, 28, 29]))))
    (.seq (.reg Tryd.fn22_r9)
    (.trim [1, 4, 27, 28, 29])))))
def Tryd.fn22 : AFun :=
 ⟨46, [.tmp 2, .tmp 3],
 (.seq (.seq (.reg Tryd.fn22_r0)
  (.trim [1]))
 (.seq (.seq (.seq (.reg Tryd.fn22_r1)
   (.trim [1, 9]))
  (.cond (.t 9)
   (.seq (.seq (.reg Tryd.fn22_r2)
    (.trim [2, 3]))
   .ret)
   .skip))
 (.seq (.seq (.regd Tryd.fn22_r3)
  (.trim [1, 4]))
 (.seq (.seq (.seq (.seq (.reg Tryd.fn22_r4)
    (.trim [1, 4, 18, 20, 22, 24, 26]))
   (.seq (.reg Tryd.fn22_r5)
   (.trim [1, 4, 27, 28, 29])))
  (.block 0
   (.loop (some [1, 4, 27, 28, 29])
    Tryd.fn22_l0)))
 (.seq (.seq (.reg Tryd.fn22_r10)
  (.trim [2, 3]))
 .ret))))), true⟩
/-! signalbench/signalbenchref07.Line -/
def Tryd.fn23_r0 : List AIns :=
   [⟨(some 1), .box 23 (.t 0), .none⟩,
    ⟨(some 2), .mov (.c (.str [])), .none⟩,
    ⟨(some 3), .mov (.c (.int .i64 0)), .none⟩]
def Tryd.fn23_r1 : List AIns :=
   [⟨(some 5), .ldn 7 (.t 1), .none⟩,
     ⟨(some 6), .call 11 [(.t 5)], .none⟩,
     ⟨(some 7), .un .not (.t 6), .none⟩]
def Tryd.fn23_r2 : List AIns :=
   [⟨(some 2), .mov (.c (.str [])), .none⟩,
      ⟨(some 3), .mov (.c (.int .i64 1)), .none⟩]
def Tryd.fn23_r3e : List DIns :=
   ⟨⟨(some 38), .bin .add (.t 34) (.t 37), .none⟩, [26, 29, 25, 21, 24, 20, 16, 19, 15, 11, 14, 10, 6, 9, 5, 4, 0, 3, 2, 1, 8, 7, 13, 12, 18, 17, 23, 22, 28, 27], [31], 0⟩ ::
   ⟨⟨(some 4), .mov (.t 38), .none⟩, [30, 29, 0, 1, 2, 3, 4, 5, 6, 7, 8, 9, 10, 11, 12, 13, 14, 15, 16, 17, 18, 19, 20, 21, 22, 23, 24, 25, 26, 27, 28], [], 0⟩ ::
   []
def Tryd.fn23_r3d : List DIns :=
   ⟨⟨(some 32), .call 34 [(.t 31)], .none⟩, [23, 19, 22, 18, 14, 17, 13, 9, 12, 8, 0, 7], [25, 26, 29, 30, 31], 1⟩ ::
   ⟨⟨(some 33), .bin .add (.t 29) (.t 32), .none⟩, [21, 24, 20, 16, 19, 15, 11, 14, 10, 6, 9, 5, 4, 0, 3, 2, 1, 8, 7, 13, 12, 18, 17, 23, 22], [26, 30, 31], 0⟩ ::
   ⟨⟨(some 34), .bin .add (.t 33) (.c (.str [32])), .none⟩, [25, 21, 24, 20, 16, 19, 15, 11, 14, 10, 6, 9, 5, 4, 0, 3, 2, 1, 8, 7, 13, 12, 18, 17, 23, 22], [30, 31], 0⟩ ::
   ⟨⟨(some 35), .fa 6 (.t 1), .none⟩, [], [28, 29, 30, 31], 0⟩ ::
   ⟨⟨(some 36), .ld1 (.t 35), .none⟩, [27], [29, 30, 31], 1⟩ ::
   ⟨⟨(some 37), .call 34 [(.t 36)], .none⟩, [28, 24, 27, 23, 19, 22, 18, 14, 17, 13, 9, 12, 8, 0, 7], [30, 31], 1⟩ ::
   Tryd.fn23_r3e
def Tryd.fn23_r3c : List DIns :=
   ⟨⟨(some 26), .ld1 (.t 25), .none⟩, [17], [19, 20, 21, 24, 25, 26, 29, 30, 31], 1⟩ ::
   ⟨⟨(some 27), .call 34 [(.t 26)], .none⟩, [18, 14, 17, 13, 9, 12, 8, 0, 7], [20, 21, 24, 25, 26, 29, 30, 31], 1⟩ ::
   ⟨⟨(some 28), .bin .add (.t 24) (.t 27), .none⟩, [16, 19, 15, 11, 14, 10, 6, 9, 5, 4, 0, 3, 2, 1, 8, 7, 13, 12, 18, 17], [21, 25, 26, 30, 31], 0⟩ ::
   ⟨⟨(some 29), .bin .add (.t 28) (.c (.str [32])), .none⟩, [20, 16, 19, 15, 11, 14, 10, 6, 9, 5, 4, 0, 3, 2, 1, 8, 7, 13, 12, 18, 17], [25, 26, 30, 31], 0⟩ ::
   ⟨⟨(some 30), .fa 4 (.t 1), .none⟩, [], [23, 24, 25, 26, 29, 30, 31], 0⟩ ::
   ⟨⟨(some 31), .ld1 (.t 30), .none⟩, [22], [24, 25, 26, 29, 30, 31], 1⟩ ::
   Tryd.fn23_r3d
def Tryd.fn23_r3b : List DIns :=
   ⟨⟨(some 20), .fa 2 (.t 1), .none⟩, [], [13, 14, 15, 16, 19, 20, 21, 24, 25, 26, 29, 30, 31], 0⟩ ::
   ⟨⟨(some 21), .ld1 (.t 20), .none⟩, [12], [14, 15, 16, 19, 20, 21, 24, 25, 26, 29, 30, 31], 1⟩ ::
   ⟨⟨(some 22), .call 34 [(.t 21)], .none⟩, [13, 9, 12, 8, 0, 7], [15, 16, 19, 20, 21, 24, 25, 26, 29, 30, 31], 1⟩ ::
   ⟨⟨(some 23), .bin .add (.t 19) (.t 22), .none⟩, [11, 14, 10, 6, 9, 5, 4, 0, 3, 2, 1, 8, 7, 13, 12], [16, 20, 21, 25, 26, 30, 31], 0⟩ ::
   ⟨⟨(some 24), .bin .add (.t 23) (.c (.str [32])), .none⟩, [15, 11, 14, 10, 6, 9, 5, 4, 0, 3, 2, 1, 8, 7, 13, 12], [20, 21, 25, 26, 30, 31], 0⟩ ::
   ⟨⟨(some 25), .fa 3 (.t 1), .none⟩, [], [18, 19, 20, 21, 24, 25, 26, 29, 30, 31], 0⟩ ::
   Tryd.fn23_r3c
def Tryd.fn23_r3a : List DIns :=
   ⟨⟨(some 14), .bin .add (.t 13) (.c (.str [32])), .none⟩, [5, 4, 0, 3, 2, 1], [10, 11, 15, 16, 20, 21, 25, 26, 30, 31], 0⟩ ::
   ⟨⟨(some 15), .fa 1 (.t 1), .none⟩, [], [8, 9, 10, 11, 14, 15, 16, 19, 20, 21, 24, 25, 26, 29, 30, 31], 0⟩ ::
   ⟨⟨(some 16), .ld1 (.t 15), .none⟩, [7], [9, 10, 11, 14, 15, 16, 19, 20, 21, 24, 25, 26, 29, 30, 31], 1⟩ ::
   ⟨⟨(some 17), .call 34 [(.t 16)], .none⟩, [8, 0, 7], [10, 11, 14, 15, 16, 19, 20, 21, 24, 25, 26, 29, 30, 31], 1⟩ ::
   ⟨⟨(some 18), .bin .add (.t 14) (.t 17), .none⟩, [6, 9, 5, 4, 0, 3, 2, 1, 8, 7], [11, 15, 16, 20, 21, 25, 26, 30, 31], 0⟩ ::
   ⟨⟨(some 19), .bin .add (.t 18) (.c (.str [32])), .none⟩, [10, 6, 9, 5, 4, 0, 3, 2, 1, 8, 7], [15, 16, 20, 21, 25, 26, 30, 31], 0⟩ ::
   Tryd.fn23_r3b
def Tryd.fn23_r3 : List DIns :=
   ⟨⟨(some 8), .call 33 [], .none⟩, [], [4, 5, 6, 9, 10, 11, 14, 15, 16, 19, 20, 21, 24, 25, 26, 29, 30, 31], 1⟩ ::
   ⟨⟨(some 9), .fa 0 (.t 1), .none⟩, [], [2, 3, 4, 5, 6, 10, 11, 15, 16, 20, 21, 25, 26, 30, 31], 0⟩ ::
   ⟨⟨(some 10), .ld1 (.t 9), .none⟩, [1], [3, 4, 5, 6, 10, 11, 15, 16, 20, 21, 25, 26, 30, 31], 1⟩ ::
   ⟨⟨(some 11), .bin .sub (.t 10) (.c (.int .i64 1)), .none⟩, [2, 1], [4, 5, 6, 10, 11, 15, 16, 20, 21, 25, 26, 30, 31], 0⟩ ::
   ⟨⟨(some 12), .ia 1 (.t 8) (.t 11), .none⟩, [0, 3, 2, 1], [5, 6, 10, 11, 15, 16, 20, 21, 25, 26, 30, 31], 0⟩ ::
   ⟨⟨(some 13), .ld1 (.t 12), .none⟩, [4, 0, 3, 2, 1], [6, 10, 11, 15, 16, 20, 21, 25, 26, 30, 31], 1⟩ ::
   Tryd.fn23_r3a
def Tryd.fn23_r4 : List AIns :=
   [⟨(some 39), .mov (.t 4), .none⟩,
    ⟨(some 40), .bin .add (.t 39) (.c (.str [32])), .none⟩,
    ⟨(some 41), .fa 5 (.t 1), .none⟩,
    ⟨(some 42), .ld1 (.t 41), .none⟩,
    ⟨(some 43), .call 35 [(.t 42)], .none⟩,
    ⟨(some 44), .bin .add (.t 40) (.t 43), .none⟩,
    ⟨(some 2), .mov (.t 44), .none⟩,
    ⟨(some 3), .mov (.c (.int .i64 0)), .none⟩]
def Tryd.fn23 : AFun :=
 ⟨45, [.tmp 2, .tmp 3],
 (.seq (.seq (.reg Tryd.fn23_r0)
  (.trim [1]))
 (.seq (.seq (.seq (.reg Tryd.fn23_r1)
   (.trim [1, 7]))
  (.cond (.t 7)
   (.seq (.seq (.reg Tryd.fn23_r2)
    (.trim [2, 3]))
   .ret)
   .skip))
 (.seq (.seq (.regd Tryd.fn23_r3)
  (.trim [1, 4]))
 (.seq (.seq (.reg Tryd.fn23_r4)
  (.trim [2, 3]))
 .ret)))), true⟩
/-! signalbench/event.Parse -/
def Tryd.fn24_r0 : List AIns :=
   [⟨(some 2), .alloc 23 [(.int .i64 0), (.int .i64 0), (.int .i64 0), (.int .i64 0), (.int .i64 0), (.str []), (.int .i64 0)], .none⟩,
    ⟨(some 3), .mov (.c (.int .i64 0)), .none⟩]
def Tryd.fn24_r1 : List AIns :=
   [⟨(some 15), .mov (.t 0), .none⟩,
    ⟨(some 16), .call 36 [(.t 15), (.c (.str [32])), (.c (.int .i64 7))], .none⟩,
    ⟨(some 4), .mov (.t 16), .none⟩]
def Tryd.fn24_r2 : List AIns :=
   [⟨(some 17), .mov (.t 4), .none⟩,
     ⟨(some 18), .lenl (.t 17), .none⟩,
     ⟨(some 19), .bin .neq (.t 18) (.c (.int .i64 7)), .none⟩]
def Tryd.fn24_r3 : List AIns :=
   [⟨(some 20), .bld [(.int .i64 0), (.int .i64 0), (.int .i64 0), (.int .i64 0), (.int .i64 0), (.str []), (.int .i64 0)] [], .none⟩,
      ⟨.none, .st 7 (.t 2) (.t 20), .none⟩,
      ⟨(some 3), .mov (.c (.int .i64 4)), .none⟩]
def Tryd.fn24_r4 : List DIns :=
   [⟨⟨(some 21), .call 29 [], .none⟩, [], [4, 5, 6], 1⟩,
    ⟨⟨(some 22), .mov (.t 4), .none⟩, [], [2, 3, 4, 5, 6], 0⟩,
    ⟨⟨(some 23), .ia 1 (.t 22) (.c (.int .i64 0)), .none⟩, [1], [3, 4, 5, 6], 0⟩,
    ⟨⟨(some 24), .ld1 (.t 23), .none⟩, [2, 1], [4, 5, 6], 1⟩,
    ⟨⟨(some 25), .call 37 [(.t 21), (.t 24)], .none⟩, [0, 3, 2, 1], [5, 6], 2⟩,
    ⟨⟨(some 26), .bin .add (.t 25) (.c (.int .i64 1)), .none⟩, [4, 0, 3, 2, 1], [6], 0⟩,
    ⟨⟨(some 5), .mov (.t 26), .none⟩, [5, 4, 0, 1, 2, 3], [], 0⟩]
def Tryd.fn24_r5 : List AIns :=
   [⟨(some 28), .mov (.t 4), .none⟩,
    ⟨(some 29), .ia 1 (.t 28) (.c (.int .i64 6)), .none⟩,
    ⟨(some 30), .ld1 (.t 29), .none⟩,
    ⟨(some 31), .call 38 [(.t 30)], .none⟩,
    ⟨(some 27), .mov (.t 31), .none⟩,
    ⟨(some 32), .ext 0 (.t 27), .none⟩,
    ⟨(some 33), .ext 1 (.t 27), .none⟩,
    ⟨(some 6), .mov (.t 32), .none⟩,
    ⟨(some 7), .mov (.t 33), .none⟩]
def Tryd.fn24_r6b : List DIns :=
   ⟨⟨(some 46), .bin .neq (.t 42) (.t 45), (some (40, false))⟩, [8, 11, 6, 7, 5, 2, 4, 1, 0, 3, 10, 9], [13], 0⟩ ::
   ⟨⟨(some 47), .pick (.t 40) (.c (.bool true)) (.t 46), .none⟩, [6, 12, 5, 2, 4, 1, 0, 3, 8, 11, 7, 10, 9], [], 0⟩ ::
   []
def Tryd.fn24_r6a : List DIns :=
   ⟨⟨(some 40), .mov (.t 39), .none⟩, [5, 2, 4, 1, 0, 3], [7, 8, 9, 10, 11, 12, 13], 0⟩ ::
   ⟨⟨(some 41), .mov (.t 6), (some (40, false))⟩, [6, 5, 2, 4, 1, 0, 3], [8, 12, 13], 0⟩ ::
   ⟨⟨(some 42), .call 32 [(.t 41)], (some (40, false))⟩, [7, 6, 5, 2, 4, 1, 0, 3], [12, 13], 1⟩ ::
   ⟨⟨(some 43), .mov (.t 4), (some (40, false))⟩, [6, 5, 2, 4, 1, 0, 3], [10, 11, 12, 13], 0⟩ ::
   ⟨⟨(some 44), .ia 1 (.t 43) (.c (.int .i64 6)), (some (40, false))⟩, [9, 6, 5, 2, 4, 1, 0, 3], [11, 12, 13], 0⟩ ::
   ⟨⟨(some 45), .ld1 (.t 44), (some (40, false))⟩, [10, 6, 9, 5, 2, 4, 1, 0, 3], [12, 13], 1⟩ ::
   Tryd.fn24_r6b
def Tryd.fn24_r6 : List DIns :=
   ⟨⟨(some 34), .mov (.t 5), .none⟩, [], [1, 2, 3, 4, 5, 6, 7, 8, 9, 10, 11, 12, 13], 0⟩ ::
   ⟨⟨(some 35), .bin .eql (.t 34) (.c (.int .i64 0)), .none⟩, [0], [2, 3, 4, 5, 6, 7, 8, 9, 10, 11, 12, 13], 0⟩ ::
   ⟨⟨(some 36), .mov (.t 35), .none⟩, [1, 0], [3, 4, 5, 6, 7, 8, 9, 10, 11, 12, 13], 0⟩ ::
   ⟨⟨(some 37), .mov (.t 7), (some (36, false))⟩, [2, 1, 0], [4, 5, 6, 7, 8, 9, 10, 11, 12, 13], 0⟩ ::
   ⟨⟨(some 38), .bin .neq (.t 37) (.c (.int .i64 0)), (some (36, false))⟩, [3, 2, 1, 0], [5, 6, 7, 8, 9, 10, 11, 12, 13], 0⟩ ::
   ⟨⟨(some 39), .pick (.t 36) (.c (.bool true)) (.t 38), .none⟩, [2, 4, 1, 0, 3], [6, 7, 8, 9, 10, 11, 12, 13], 0⟩ ::
   Tryd.fn24_r6a
def Tryd.fn24_r7 : List AIns :=
   [⟨(some 48), .bld [(.int .i64 0), (.int .i64 0), (.int .i64 0), (.int .i64 0), (.int .i64 0), (.str []), (.int .i64 0)] [], .none⟩,
      ⟨.none, .st 7 (.t 2) (.t 48), .none⟩,
      ⟨(some 3), .mov (.c (.int .i64 4)), .none⟩]
def Tryd.fn24_r8 : List AIns :=
   [⟨(some 8), .mov (.c (.bool true)), .none⟩]
def Tryd.fn24_r9 : List AIns :=
   [⟨(some 9), .alloc 56 [(.int .i64 0), (.int .i64 0), (.int .i64 0), (.int .i64 0), (.int .i64 0)], .none⟩]
def Tryd.fn24_r10 : List AIns :=
   [⟨(some 49), .mov (.c (.int .i64 0)), .none⟩]
def Tryd.fn24_r11 : List AIns :=
   [⟨(some 50), .bin .lss (.t 49) (.c (.int .i64 5)), .none⟩]
def Tryd.fn24_r12 : List AIns :=
   [⟨(some 51), .mov (.t 49), .none⟩,
         ⟨(some 10), .mov (.t 51), .none⟩]
def Tryd.fn24_r13 : List AIns :=
   [⟨(some 53), .mov (.t 4), .none⟩,
          ⟨(some 54), .mov (.t 10), .none⟩,
          ⟨(some 55), .bin .add (.t 54) (.c (.int .i64 1)), .none⟩,
          ⟨(some 56), .ia 1 (.t 53) (.t 55), .none⟩,
          ⟨(some 57), .ld1 (.t 56), .none⟩,
          ⟨(some 58), .call 39 [(.t 57)], .none⟩,
          ⟨(some 52), .mov (.t 58), .none⟩,
          ⟨(some 59), .ext 0 (.t 52), .none⟩,
          ⟨(some 60), .ext 1 (.t 52), .none⟩,
          ⟨(some 61), .ext 2 (.t 52), .none⟩]
def Tryd.fn24_r14 : List AIns :=
   [⟨(some 11), .mov (.t 59), .none⟩,
         ⟨(some 12), .mov (.t 60), .none⟩,
         ⟨(some 13), .mov (.t 61), .none⟩]
def Tryd.fn24_r15 : List AIns :=
   [⟨(some 62), .mov (.t 12), .none⟩,
          ⟨(some 63), .un .not (.t 62), .none⟩]
def Tryd.fn24_r16 : List AIns :=
   [⟨(some 64), .bld [(.int .i64 0), (.int .i64 0), (.int .i64 0), (.int .i64 0), (.int .i64 0), (.str []), (.int .i64 0)] [], .none⟩,
           ⟨.none, .st 7 (.t 2) (.t 64), .none⟩,
           ⟨(some 3), .mov (.c (.int .i64 4)), .none⟩]
def Tryd.fn24_r17 : List AIns :=
   [⟨(some 65), .mov (.t 10), .none⟩,
         ⟨(some 66), .mov (.t 11), .none⟩,
         ⟨(some 67), .iaa 5 1 (.t 9) (.t 65), .none⟩,
         ⟨.none, .st 1 (.t 67) (.t 66), .none⟩]
def Tryd.fn24_r18 : List AIns :=
   [⟨(some 68), .mov (.t 8), .none⟩,
        ⟨(some 69), .mov (.t 68), .none⟩,
        ⟨(some 70), .mov (.t 13), (some (69, true))⟩,
        ⟨(some 71), .pick (.t 69) (.t 70) (.c (.bool false)), .none⟩,
        ⟨(some 8), .mov (.t 71), .none⟩]
def Tryd.fn24_r19 : List AIns :=
   [⟨(some 72), .bin .add (.t 49) (.c (.int .i64 1)), .none⟩,
      ⟨(some 49), .mov (.t 72), .none⟩]
def Tryd.fn24_r20 : List AIns :=
   [⟨(some 73), .mov (.t 5), .none⟩,
     ⟨(some 74), .iaa 5 1 (.t 9) (.c (.int .i64 0)), .none⟩,
     ⟨(some 75), .ld1 (.t 74), .none⟩,
     ⟨(some 76), .iaa 5 1 (.t 9) (.c (.int .i64 1)), .none⟩,
     ⟨(some 77), .ld1 (.t 76), .none⟩,
     ⟨(some 78), .iaa 5 1 (.t 9) (.c (.int .i64 2)), .none⟩,
     ⟨(some 79), .ld1 (.t 78), .none⟩,
     ⟨(some 80), .iaa 5 1 (.t 9) (.c (.int .i64 3)), .none⟩,
     ⟨(some 81), .ld1 (.t 80), .none⟩,
     ⟨(some 82), .iaa 5 1 (.t 9) (.c (.int .i64 4)), .none⟩]
def Tryd.fn24_r21 : List AIns :=
   [⟨(some 83), .ld1 (.t 82), .none⟩,
    ⟨(some 84), .mov (.t 6), .none⟩,
    ⟨(some 85), .bld [(.int .i64 0), (.int .i64 0), (.int .i64 0), (.int .i64 0), (.int .i64 0), (.str []), (.int .i64 0)] [(0, 1, (.t 73)), (1, 1, (.t 75)), (2, 1, (.t 77)), (3, 1, (.t 79)), (4, 1, (.t 81)), (6, 1, (.t 83)), (5, 1, (.t 84))], .none⟩,
    ⟨(some 14), .alloc 23 [(.int .i64 0), (.int .i64 0), (.int .i64 0), (.int .i64 0), (.int .i64 0), (.str []), (.int .i64 0)], .none⟩,
    ⟨.none, .st 7 (.t 14) (.t 85), .none⟩]
def Tryd.fn24_r22 : List AIns :=
   [⟨(some 86), .mov (.t 8), .none⟩,
     ⟨(some 87), .un .not (.t 86), .none⟩,
     ⟨(some 88), .mov (.t 87), .none⟩,
     ⟨(some 89), .ldn 7 (.t 14), (some (88, false))⟩,
     ⟨(some 90), .call 10 [(.t 89)], (some (88, false))⟩,
     ⟨(some 91), .un .not (.t 90), (some (88, false))⟩,
     ⟨(some 92), .pick (.t 88) (.c (.bool true)) (.t 91), .none⟩]
def Tryd.fn24_r23 : List AIns :=
   [⟨(some 93), .bld [(.int .i64 0), (.int .i64 0), (.int .i64 0), (.int .i64 0), (.int .i64 0), (.str []), (.int .i64 0)] [], .none⟩,
      ⟨.none, .st 7 (.t 2) (.t 93), .none⟩,
      ⟨(some 3), .mov (.c (.int .i64 2)), .none⟩]
def Tryd.fn24_r24 : List AIns :=
   [⟨(some 94), .ldn 7 (.t 14), .none⟩,
    ⟨.none, .st 7 (.t 2) (.t 94), .none⟩,
    ⟨(some 3), .mov (.c (.int .i64 0)), .none⟩]
def Tryd.fn24_l0 : ACode :=
 (.seq (.seq (.reg Tryd.fn24_r11)
     (.trim [2, 4, 5, 6, 8, 9, 49, 50]))
    (.seq (.cond (.t 50)
      .skip
      (.exit 0))
    (.seq (.block 1
      (.seq (.seq (.reg Tryd.fn24_r12)
       (.trim [2, 4, 5, 6, 8, 9, 10, 49]))
      (.seq (.seq (.seq (.reg Tryd.fn24_r13)
        (.trim [2, 4, 5, 6, 8, 9, 10, 49, 59, 60, 61]))
       (.seq (.reg Tryd.fn24_r14)
       (.trim [2, 4, 5, 6, 8, 9, 10, 11, 12, 13, 49])))
      (.seq (.seq (.seq (.reg Tryd.fn24_r15)
        (.trim [2, 4, 5, 6, 8, 9, 10, 11, 13, 49, 63]))
       (.cond (.t 63)
        (.seq (.seq (.reg Tryd.fn24_r16)
         (.trim [2, 3]))
        .ret)
        .skip))
      (.seq (.seq (.reg Tryd.fn24_r17)
       (.trim [2, 4, 5, 6, 8, 9, 13, 49]))
      (.seq (.reg Tryd.fn24_r18)
      (.trim [2, 4, 5, 6, 8, 9, 49])))))))
    (.seq (.reg Tryd.fn24_r19)
    (.trim [2, 4, 5, 6, 8, 9, 49])))))
def Tryd.fn24 : AFun :=
 ⟨95, [.celln 2 7, .tmp 3],
 (.seq (.seq (.reg Tryd.fn24_r0)
  (.trim [0, 2]))
 (.seq (.seq (.reg Tryd.fn24_r1)
  (.trim [2, 4]))
 (.seq (.seq (.seq (.reg Tryd.fn24_r2)
   (.trim [2, 4, 19]))
  (.cond (.t 19)
   (.seq (.seq (.reg Tryd.fn24_r3)
    (.trim [2, 3]))
   .ret)
   .skip))
 (.seq (.seq (.regd Tryd.fn24_r4)
  (.trim [2, 4, 5]))
 (.seq (.seq (.reg Tryd.fn24_r5)
  (.trim [2, 4, 5, 6, 7]))
 (.seq (.seq (.seq (.regd Tryd.fn24_r6)
   (.trim [2, 4, 5, 6, 47]))
  (.cond (.t 47)
   (.seq (.seq (.reg Tryd.fn24_r7)
    (.trim [2, 3]))
   .ret)
   .skip))
 (.seq (.seq (.reg Tryd.fn24_r8)
  (.trim [2, 4, 5, 6, 8]))
 (.seq (.seq (.reg Tryd.fn24_r9)
  (.trim [2, 4, 5, 6, 8, 9]))
 (.seq (.seq (.seq (.reg Tryd.fn24_r10)
   (.trim [2, 4, 5, 6, 8, 9, 49]))
  (.block 0
   (.loop (some [2, 4, 5, 6, 8, 9, 49])
    Tryd.fn24_l0)))
 (.seq (.seq (.seq (.reg Tryd.fn24_r20)
   (.trim [2, 6, 8, 73, 75, 77, 79, 81, 82]))
  (.seq (.reg Tryd.fn24_r21)
  (.trim [2, 8, 14])))
 (.seq (.seq (.seq (.reg Tryd.fn24_r22)
   (.trim [2, 14, 92]))
  (.cond (.t 92)
   (.seq (.seq (.reg Tryd.fn24_r23)
    (.trim [2, 3]))
   .ret)
   .skip))
 (.seq (.seq (.reg Tryd.fn24_r24)
  (.trim [2, 3]))
 .ret)))))))))))), true⟩
/-! signalbench/signalbenchref07.Parse -/
def Tryd.fn25_r0 : List AIns :=
   [⟨(some 2), .alloc 23 [(.int .i64 0), (.int .i64 0), (.int .i64 0), (.int .i64 0), (.int .i64 0), (.str []), (.int .i64 0)], .none⟩,
    ⟨(some 3), .mov (.c (.int .i64 0)), .none⟩]
def Tryd.fn25_r1 : List AIns :=
   [⟨(some 18), .mov (.t 0), .none⟩,
    ⟨(some 19), .call 40 [(.t 18)], .none⟩,
    ⟨(some 17), .mov (.t 19), .none⟩,
    ⟨(some 20), .ext 0 (.t 17), .none⟩,
    ⟨(some 21), .ext 1 (.t 17), .none⟩,
    ⟨(some 22), .ext 2 (.t 17), .none⟩,
    ⟨(some 4), .mov (.t 20), .none⟩,
    ⟨(some 5), .mov (.t 21), .none⟩,
    ⟨(some 6), .mov (.t 22), .none⟩]
def Tryd.fn25_r2 : List AIns :=
   [⟨(some 23), .mov (.t 6), .none⟩,
     ⟨(some 24), .un .not (.t 23), .none⟩,
     ⟨(some 25), .mov (.t 24), .none⟩,
     ⟨(some 26), .mov (.t 4), (some (25, false))⟩,
     ⟨(some 27), .call 41 [(.t 26)], (some (25, false))⟩,
     ⟨(some 28), .bin .eql (.t 27) (.c (.int .i64 0)), (some (25, false))⟩,
     ⟨(some 29), .pick (.t 25) (.c (.bool true)) (.t 28), .none⟩]
def Tryd.fn25_r3 : List AIns :=
   [⟨(some 30), .bld [(.int .i64 0), (.int .i64 0), (.int .i64 0), (.int .i64 0), (.int .i64 0), (.str []), (.int .i64 0)] [], .none⟩,
      ⟨.none, .st 7 (.t 2) (.t 30), .none⟩,
      ⟨(some 3), .mov (.c (.int .i64 4)), .none⟩]
def Tryd.fn25_r4 : List AIns :=
   [⟨(some 31), .bsl 3 1 0 [(.int .i64 0)] [], .none⟩,
    ⟨(some 7), .mov (.t 31), .none⟩]
def Tryd.fn25_r5 : List AIns :=
   [⟨(some 8), .mov (.c (.int .i64 0)), .none⟩]
def Tryd.fn25_r6 : List AIns :=
   [⟨(some 32), .mov (.t 8), .none⟩,
        ⟨(some 33), .bin .lss (.t 32) (.c (.int .i64 5)), .none⟩]
def Tryd.fn25_r7 : List AIns :=
   [⟨(some 37), .mov (.t 5), .none⟩,
         ⟨(some 38), .call 40 [(.t 37)], .none⟩,
         ⟨(some 36), .mov (.t 38), .none⟩,
         ⟨(some 39), .ext 0 (.t 36), .none⟩,
         ⟨(some 40), .ext 1 (.t 36), .none⟩,
         ⟨(some 41), .ext 2 (.t 36), .none⟩,
         ⟨(some 9), .mov (.t 39), .none⟩,
         ⟨(some 10), .mov (.t 40), .none⟩,
         ⟨(some 11), .mov (.t 41), .none⟩]
def Tryd.fn25_r8 : List AIns :=
   [⟨(some 43), .mov (.t 9), .none⟩,
         ⟨(some 44), .call 42 [(.t 43)], .none⟩,
         ⟨(some 42), .mov (.t 44), .none⟩,
         ⟨(some 45), .ext 0 (.t 42), .none⟩,
         ⟨(some 46), .ext 1 (.t 42), .none⟩,
         ⟨(some 12), .mov (.t 45), .none⟩,
         ⟨(some 13), .mov (.t 46), .none⟩]
def Tryd.fn25_r9 : List AIns :=
   [⟨(some 47), .mov (.t 11), .none⟩,
          ⟨(some 48), .un .not (.t 47), .none⟩,
          ⟨(some 49), .mov (.t 48), .none⟩,
          ⟨(some 50), .mov (.t 13), (some (49, false))⟩,
          ⟨(some 51), .un .not (.t 50), (some (49, false))⟩,
          ⟨(some 52), .pick (.t 49) (.c (.bool true)) (.t 51), .none⟩]
def Tryd.fn25_r10 : List AIns :=
   [⟨(some 53), .bld [(.int .i64 0), (.int .i64 0), (.int .i64 0), (.int .i64 0), (.int .i64 0), (.str []), (.int .i64 0)] [], .none⟩,
           ⟨.none, .st 7 (.t 2) (.t 53), .none⟩,
           ⟨(some 3), .mov (.c (.int .i64 4)), .none⟩]
def Tryd.fn25_r11 : List AIns :=
   [⟨(some 54), .mov (.t 7), .none⟩,
         ⟨(some 55), .mov (.t 12), .none⟩,
         ⟨(some 56), .bsl 3 1 1 [(.int .i64 0)] [(0, 1, (.t 55))], .none⟩,
         ⟨(some 57), .app 3 1 8 (.t 54) (.t 56), .none⟩,
         ⟨(some 7), .mov (.t 57), .none⟩]
def Tryd.fn25_r12 : List AIns :=
   [⟨(some 58), .mov (.t 10), .none⟩,
        ⟨(some 5), .mov (.t 58), .none⟩]
def Tryd.fn25_r13 : List AIns :=
   [⟨(some 34), .mov (.t 8), .none⟩,
      ⟨(some 35), .bin .add (.t 34) (.c (.int .i64 1)), .none⟩,
      ⟨(some 8), .mov (.t 35), .none⟩]
def Tryd.fn25_r14 : List AIns :=
   [⟨(some 60), .mov (.t 5), .none⟩,
    ⟨(some 61), .call 43 [(.t 60)], .none⟩,
    ⟨(some 59), .mov (.t 61), .none⟩,
    ⟨(some 62), .ext 0 (.t 59), .none⟩,
    ⟨(some 63), .ext 1 (.t 59), .none⟩,
    ⟨(some 14), .mov (.t 62), .none⟩,
    ⟨(some 15), .mov (.t 63), .none⟩]
def Tryd.fn25_r15 : List AIns :=
   [⟨(some 64), .mov (.t 15), .none⟩,
     ⟨(some 65), .bin .neq (.t 64) (.c (.int .i64 0)), .none⟩,
     ⟨(some 66), .mov (.t 65), .none⟩,
     ⟨(some 67), .mov (.t 14), (some (66, false))⟩,
     ⟨(some 68), .call 35 [(.t 67)], (some (66, false))⟩,
     ⟨(some 69), .mov (.t 5), (some (66, false))⟩,
     ⟨(some 70), .bin .neq (.t 68) (.t 69), (some (66, false))⟩,
     ⟨(some 71), .pick (.t 66) (.c (.bool true)) (.t 70), .none⟩]
def Tryd.fn25_r16 : List AIns :=
   [⟨(some 72), .bld [(.int .i64 0), (.int .i64 0), (.int .i64 0), (.int .i64 0), (.int .i64 0), (.str []), (.int .i64 0)] [], .none⟩,
      ⟨.none, .st 7 (.t 2) (.t 72), .none⟩,
      ⟨(some 3), .mov (.c (.int .i64 4)), .none⟩]
def Tryd.fn25_r17c : List DIns :=
   ⟨⟨(some 91), .bld [(.int .i64 0), (.int .i64 0), (.int .i64 0), (.int .i64 0), (.int .i64 0), (.str []), (.int .i64 0)] [(0, 1, (.t 74)), (1, 1, (.t 77)), (2, 1, (.t 80)), (3, 1, (.t 83)), (4, 1, (.t 86)), (6, 1, (.t 89)), (5, 1, (.t 90))], .none⟩, [1, 4, 7, 10, 13, 16, 17, 0, 3, 2, 6, 5, 9, 8, 12, 11, 15, 14], [20], 0⟩ ::
   ⟨⟨(some 16), .alloc 23 [(.int .i64 0), (.int .i64 0), (.int .i64 0), (.int .i64 0), (.int .i64 0), (.str []), (.int .i64 0)], .none⟩, [], [20], 1⟩ ::
   ⟨⟨.none, .st 7 (.t 16) (.t 91), .none⟩, [19, 18, 1, 0, 2, 3, 4, 5, 6, 7, 8, 9, 10, 11, 12, 13, 14, 15, 16, 17], [], 2⟩ ::
   []
def Tryd.fn25_r17b : List DIns :=
   ⟨⟨(some 85), .ia 1 (.t 84) (.c (.int .i64 3)), .none⟩, [11], [13, 18, 20], 0⟩ ::
   ⟨⟨(some 86), .ld1 (.t 85), .none⟩, [12, 11], [18, 20], 1⟩ ::
   ⟨⟨(some 87), .mov (.t 7), .none⟩, [], [15, 16, 18, 20], 0⟩ ::
   ⟨⟨(some 88), .ia 1 (.t 87) (.c (.int .i64 4)), .none⟩, [14], [16, 18, 20], 0⟩ ::
   ⟨⟨(some 89), .ld1 (.t 88), .none⟩, [15, 14], [18, 20], 1⟩ ::
   ⟨⟨(some 90), .mov (.t 14), .none⟩, [], [18, 20], 0⟩ ::
   Tryd.fn25_r17c
def Tryd.fn25_r17a : List DIns :=
   ⟨⟨(some 79), .ia 1 (.t 78) (.c (.int .i64 1)), .none⟩, [5], [7, 18, 20], 0⟩ ::
   ⟨⟨(some 80), .ld1 (.t 79), .none⟩, [6, 5], [18, 20], 1⟩ ::
   ⟨⟨(some 81), .mov (.t 7), .none⟩, [], [9, 10, 18, 20], 0⟩ ::
   ⟨⟨(some 82), .ia 1 (.t 81) (.c (.int .i64 2)), .none⟩, [8], [10, 18, 20], 0⟩ ::
   ⟨⟨(some 83), .ld1 (.t 82), .none⟩, [9, 8], [18, 20], 1⟩ ::
   ⟨⟨(some 84), .mov (.t 7), .none⟩, [], [12, 13, 18, 20], 0⟩ ::
   Tryd.fn25_r17b
def Tryd.fn25_r17 : List DIns :=
   ⟨⟨(some 73), .mov (.t 4), .none⟩, [], [1, 18, 20], 0⟩ ::
   ⟨⟨(some 74), .call 41 [(.t 73)], .none⟩, [0], [18, 20], 1⟩ ::
   ⟨⟨(some 75), .mov (.t 7), .none⟩, [], [3, 4, 18, 20], 0⟩ ::
   ⟨⟨(some 76), .ia 1 (.t 75) (.c (.int .i64 0)), .none⟩, [2], [4, 18, 20], 0⟩ ::
   ⟨⟨(some 77), .ld1 (.t 76), .none⟩, [3, 2], [18, 20], 1⟩ ::
   ⟨⟨(some 78), .mov (.t 7), .none⟩, [], [6, 7, 18, 20], 0⟩ ::
   Tryd.fn25_r17a
def Tryd.fn25_r18 : List AIns :=
   [⟨(some 92), .ldn 7 (.t 16), .none⟩,
     ⟨(some 93), .call 11 [(.t 92)], .none⟩,
     ⟨(some 94), .un .not (.t 93), .none⟩]
def Tryd.fn25_r19 : List AIns :=
   [⟨(some 95), .bld [(.int .i64 0), (.int .i64 0), (.int .i64 0), (.int .i64 0), (.int .i64 0), (.str []), (.int .i64 0)] [], .none⟩,
      ⟨.none, .st 7 (.t 2) (.t 95), .none⟩,
      ⟨(some 3), .mov (.c (.int .i64 2)), .none⟩]
def Tryd.fn25_r20 : List AIns :=
   [⟨(some 96), .ldn 7 (.t 16), .none⟩,
    ⟨.none, .st 7 (.t 2) (.t 96), .none⟩,
    ⟨(some 3), .mov (.c (.int .i64 0)), .none⟩]
def Tryd.fn25_l0 : ACode :=
 (.seq (.seq (.seq (.reg Tryd.fn25_r6)
      (.trim [2, 4, 5, 7, 8, 33]))
     (.cond (.t 33)
      .skip
      (.exit 0)))
    (.seq (.block 1
      (.seq (.seq (.reg Tryd.fn25_r7)
       (.trim [2, 4, 7, 8, 9, 10, 11]))
      (.seq (.seq (.reg Tryd.fn25_r8)
       (.trim [2, 4, 7, 8, 10, 11, 12, 13]))
      (.seq (.seq (.seq (.reg Tryd.fn25_r9)
        (.trim [2, 4, 7, 8, 10, 12, 52]))
       (.cond (.t 52)
        (.seq (.seq (.reg Tryd.fn25_r10)
         (.trim [2, 3]))
        .ret)
        .skip))
      (.seq (.seq (.reg Tryd.fn25_r11)
       (.trim [2, 4, 7, 8, 10]))
      (.seq (.reg Tryd.fn25_r12)
      (.trim [2, 4, 5, 7, 8])))))))
    (.seq (.reg Tryd.fn25_r13)
    (.trim [2, 4, 5, 7, 8]))))
def Tryd.fn25 : AFun :=
 ⟨97, [.celln 2 7, .tmp 3],
 (.seq (.seq (.reg Tryd.fn25_r0)
  (.trim [0, 2]))
 (.seq (.seq (.reg Tryd.fn25_r1)
  (.trim [2, 4, 5, 6]))
 (.seq (.seq (.seq (.reg Tryd.fn25_r2)
   (.trim [2, 4, 5, 29]))
  (.cond (.t 29)
   (.seq (.seq (.reg Tryd.fn25_r3)
    (.trim [2, 3]))
   .ret)
   .skip))
 (.seq (.seq (.reg Tryd.fn25_r4)
  (.trim [2, 4, 5, 7]))
 (.seq (.seq (.seq (.reg Tryd.fn25_r5)
   (.trim [2, 4, 5, 7, 8]))
  (.block 0
   (.loop (some [2, 4, 5, 7, 8])
    Tryd.fn25_l0)))
 (.seq (.seq (.reg Tryd.fn25_r14)
  (.trim [2, 4, 5, 7, 14, 15]))
 (.seq (.seq (.seq (.reg Tryd.fn25_r15)
   (.trim [2, 4, 7, 14, 71]))
  (.cond (.t 71)
   (.seq (.seq (.reg Tryd.fn25_r16)
    (.trim [2, 3]))
   .ret)
   .skip))
 (.seq (.seq (.regd Tryd.fn25_r17)
  (.trim [2, 16]))
 (.seq (.seq (.seq (.reg Tryd.fn25_r18)
   (.trim [2, 16, 94]))
  (.cond (.t 94)
   (.seq (.seq (.reg Tryd.fn25_r19)
    (.trim [2, 3]))
   .ret)
   .skip))
 (.seq (.seq (.reg Tryd.fn25_r20)
  (.trim [2, 3]))
 .ret)))))))))), true⟩
/-! signalbench/event.Ordered -/
def Tryd.fn26_r0 : List AIns :=
   [⟨(some 2), .mov (.c (.bool false)), .none⟩]
def Tryd.fn26_r1 : List AIns :=
   [⟨(some 3), .mov (.c (.int .i64 1)), .none⟩]
def Tryd.fn26_r2 : List AIns :=
   [⟨(some 4), .mov (.t 3), .none⟩,
        ⟨(some 5), .mov (.t 0), .none⟩,
        ⟨(some 6), .lenl (.t 5), .none⟩,
        ⟨(some 7), .bin .lss (.t 4) (.t 6), .none⟩]
def Tryd.fn26_r3a : List DIns :=
   ⟨⟨(some 16), .bin .sub (.t 15) (.c (.int .i64 1)), .none⟩, [5], [7, 8, 9], 0⟩ ::
   ⟨⟨(some 17), .ia 7 (.t 14) (.t 16), .none⟩, [4, 6, 5], [8, 9], 0⟩ ::
   ⟨⟨(some 18), .ldn 7 (.t 17), .none⟩, [7, 4, 6, 5], [9], 1⟩ ::
   ⟨⟨(some 19), .call 12 [(.t 13), (.t 18)], .none⟩, [3, 8, 2, 0, 1, 7, 4, 6, 5], [], 2⟩ ::
   []
def Tryd.fn26_r3 : List DIns :=
   ⟨⟨(some 10), .mov (.t 0), .none⟩, [], [2, 3, 9], 0⟩ ::
   ⟨⟨(some 11), .mov (.t 3), .none⟩, [], [2, 3, 9], 0⟩ ::
   ⟨⟨(some 12), .ia 7 (.t 10) (.t 11), .none⟩, [0, 1], [3, 9], 0⟩ ::
   ⟨⟨(some 13), .ldn 7 (.t 12), .none⟩, [2, 0, 1], [9], 1⟩ ::
   ⟨⟨(some 14), .mov (.t 0), .none⟩, [], [7, 8, 9], 0⟩ ::
   ⟨⟨(some 15), .mov (.t 3), .none⟩, [], [6, 7, 8, 9], 0⟩ ::
   Tryd.fn26_r3a
def Tryd.fn26_r4 : List AIns :=
   [⟨(some 2), .mov (.c (.bool false)), .none⟩]
def Tryd.fn26_r5 : List AIns :=
   [⟨(some 8), .mov (.t 3), .none⟩,
      ⟨(some 9), .bin .add (.t 8) (.c (.int .i64 1)), .none⟩,
      ⟨(some 3), .mov (.t 9), .none⟩]
def Tryd.fn26_r6 : List AIns :=
   [⟨(some 2), .mov (.c (.bool true)), .none⟩]
def Tryd.fn26_l0 : ACode :=
 (.seq (.seq (.seq (.reg Tryd.fn26_r2)
      (.trim [0, 3, 7]))
     (.cond (.t 7)
      .skip
      (.exit 0)))
    (.seq (.block 1
      (.seq (.seq (.regd Tryd.fn26_r3)
       (.trim [0, 3, 19]))
      (.cond (.t 19)
       (.seq (.seq (.reg Tryd.fn26_r4)
        (.trim [2]))
       .ret)
       .skip)))
    (.seq (.reg Tryd.fn26_r5)
    (.trim [0, 3]))))
def Tryd.fn26 : AFun :=
 ⟨20, [.tmp 2],
 (.seq (.seq (.reg Tryd.fn26_r0)
  (.trim [0]))
 (.seq (.seq (.seq (.reg Tryd.fn26_r1)
   (.trim [0, 3]))
  (.block 0
   (.loop (some [0, 3])
    Tryd.fn26_l0)))
 (.seq (.seq (.reg Tryd.fn26_r6)
  (.trim [2]))
 .ret))), true⟩
/-! signalbench/event.compare -/
def Tryd.fn27_r0 : List AIns :=
   [⟨(some 2), .box 23 (.t 0), .none⟩,
    ⟨(some 3), .box 23 (.t 1), .none⟩,
    ⟨(some 4), .mov (.c (.int .i64 0)), .none⟩]
def Tryd.fn27_r1c : List DIns :=
   ⟨⟨(some 23), .pick (.t 17) (.t 22) (.c (.bool false)), .none⟩, [12, 17, 11, 5, 10, 4, 1, 3, 0, 2, 7, 9, 6, 8, 14, 16, 13, 15], [], 0⟩ ::
   []
def Tryd.fn27_r1b : List DIns :=
   ⟨⟨(some 17), .mov (.t 16), .none⟩, [11, 5, 10, 4, 1, 3, 0, 2, 7, 9, 6, 8], [13, 14, 15, 16, 17, 18], 0⟩ ::
   ⟨⟨(some 18), .ldn 7 (.t 2), (some (17, true))⟩, [12, 11, 5, 10, 4, 1, 3, 0, 2, 7, 9, 6, 8], [14, 16, 17, 18], 1⟩ ::
   ⟨⟨(some 19), .call 14 [(.t 18)], (some (17, true))⟩, [13, 12, 11, 5, 10, 4, 1, 3, 0, 2, 7, 9, 6, 8], [16, 17, 18], 1⟩ ::
   ⟨⟨(some 20), .ldn 7 (.t 3), (some (17, true))⟩, [12, 11, 5, 10, 4, 1, 3, 0, 2, 7, 9, 6, 8], [16, 17, 18], 1⟩ ::
   ⟨⟨(some 21), .call 14 [(.t 20)], (some (17, true))⟩, [15, 14, 12, 11, 5, 10, 4, 1, 3, 0, 2, 7, 9, 6, 8, 13], [17, 18], 2⟩ ::
   ⟨⟨(some 22), .eqv false false (.st [(0, .none, .int), (1, .none, .int), (2, .none, .int), (3, .none, .int), (4, .none, .int), (5, .none, .str), (6, .none, .int)]) (.t 19) (.t 21), (some (17, true))⟩, [14, 16, 12, 13, 11, 5, 10, 4, 1, 3, 0, 2, 7, 9, 6, 8, 15], [18], 0⟩ ::
   Tryd.fn27_r1c
def Tryd.fn27_r1a : List DIns :=
   ⟨⟨(some 11), .fa 2 (.t 2), (some (10, true))⟩, [5, 4, 1, 3, 0, 2], [7, 10, 11, 12, 13, 14, 15, 16, 17, 18], 0⟩ ::
   ⟨⟨(some 12), .ld1 (.t 11), (some (10, true))⟩, [6, 5, 4, 1, 3, 0, 2], [10, 11, 12, 13, 14, 15, 16, 17, 18], 1⟩ ::
   ⟨⟨(some 13), .fa 2 (.t 3), (some (10, true))⟩, [5, 4, 1, 3, 0, 2], [9, 10, 11, 12, 13, 14, 15, 16, 17, 18], 0⟩ ::
   ⟨⟨(some 14), .ld1 (.t 13), (some (10, true))⟩, [8, 5, 4, 1, 3, 0, 2], [10, 11, 12, 13, 14, 15, 16, 17, 18], 1⟩ ::
   ⟨⟨(some 15), .bin .eql (.t 12) (.t 14), (some (10, true))⟩, [7, 9, 5, 6, 4, 1, 3, 0, 2, 8], [11, 12, 13, 14, 15, 16, 17, 18], 0⟩ ::
   ⟨⟨(some 16), .pick (.t 10) (.t 15) (.c (.bool false)), .none⟩, [5, 10, 4, 1, 3, 0, 2, 7, 9, 6, 8], [12, 13, 14, 15, 16, 17, 18], 0⟩ ::
   Tryd.fn27_r1b
def Tryd.fn27_r1 : List DIns :=
   ⟨⟨(some 5), .fa 1 (.t 2), .none⟩, [], [1, 4, 5, 6, 7, 8, 9, 10, 11, 12, 13, 14, 15, 16, 17, 18], 0⟩ ::
   ⟨⟨(some 6), .ld1 (.t 5), .none⟩, [0], [4, 5, 6, 7, 8, 9, 10, 11, 12, 13, 14, 15, 16, 17, 18], 1⟩ ::
   ⟨⟨(some 7), .fa 1 (.t 3), .none⟩, [], [3, 4, 5, 6, 7, 8, 9, 10, 11, 12, 13, 14, 15, 16, 17, 18], 0⟩ ::
   ⟨⟨(some 8), .ld1 (.t 7), .none⟩, [2], [4, 5, 6, 7, 8, 9, 10, 11, 12, 13, 14, 15, 16, 17, 18], 1⟩ ::
   ⟨⟨(some 9), .bin .eql (.t 6) (.t 8), .none⟩, [1, 3, 0, 2], [5, 6, 7, 8, 9, 10, 11, 12, 13, 14, 15, 16, 17, 18], 0⟩ ::
   ⟨⟨(some 10), .mov (.t 9), .none⟩, [4, 1, 3, 0, 2], [6, 7, 8, 9, 10, 11, 12, 13, 14, 15, 16, 17, 18], 0⟩ ::
   Tryd.fn27_r1a
def Tryd.fn27_r2 : List AIns :=
   [⟨(some 4), .mov (.c (.int .i64 0)), .none⟩]
def Tryd.fn27_r3f : List DIns :=
   ⟨⟨(some 60), .call 44 [(.t 59)], .none⟩, [35, 34, 4, 9, 14, 19, 24, 29, 1, 3, 0, 2, 6, 8, 5, 7, 11, 13, 10, 12, 16, 18, 15, 17, 21, 23, 20, 22, 26, 28, 25, 27, 31, 33, 30, 32], [37], 2⟩ ::
   ⟨⟨(some 4), .mov (.t 60), .none⟩, [36, 0, 1, 2, 3, 4, 5, 6, 7, 8, 9, 10, 11, 12, 13, 14, 15, 16, 17, 18, 19, 20, 21, 22, 23, 24, 25, 26, 27, 28, 29, 30, 31, 32, 33, 34, 35], [], 0⟩ ::
   []
def Tryd.fn27_r3e : List DIns :=
   ⟨⟨(some 54), .fa 6 (.t 2), .none⟩, [], [31, 34, 35, 36, 37], 0⟩ ::
   ⟨⟨(some 55), .ld1 (.t 54), .none⟩, [30], [34, 35, 36, 37], 1⟩ ::
   ⟨⟨(some 56), .fa 6 (.t 3), .none⟩, [], [33, 34, 35, 36, 37], 0⟩ ::
   ⟨⟨(some 57), .ld1 (.t 56), .none⟩, [32], [34, 35, 36, 37], 1⟩ ::
   ⟨⟨(some 58), .call 45 [(.t 55), (.t 57)], .none⟩, [31, 33, 29, 30, 32, 26, 28, 24, 25, 27, 21, 23, 19, 20, 22, 16, 18, 14, 15, 17, 11, 13, 9, 10, 12, 6, 8, 4, 5, 7, 1, 3, 0, 2], [35, 36, 37], 2⟩ ::
   ⟨⟨(some 59), .bsl 3 1 7 [(.int .i64 0)] [(0, 1, (.t 28)), (1, 1, (.t 33)), (2, 1, (.t 38)), (3, 1, (.t 43)), (4, 1, (.t 48)), (5, 1, (.t 53)), (6, 1, (.t 58))], .none⟩, [4, 9, 14, 19, 24, 29, 34, 1, 3, 0, 2, 6, 8, 5, 7, 11, 13, 10, 12, 16, 18, 15, 17, 21, 23, 20, 22, 26, 28, 25, 27, 31, 33, 30, 32], [36, 37], 2⟩ ::
   Tryd.fn27_r3f
def Tryd.fn27_r3d : List DIns :=
   ⟨⟨(some 48), .call 45 [(.t 45), (.t 47)], .none⟩, [21, 23, 19, 20, 22, 16, 18, 14, 15, 17, 11, 13, 9, 10, 12, 6, 8, 4, 5, 7, 1, 3, 0, 2], [29, 34, 35, 36, 37], 1⟩ ::
   ⟨⟨(some 49), .fa 5 (.t 2), .none⟩, [], [26, 29, 34, 35, 36, 37], 0⟩ ::
   ⟨⟨(some 50), .ld1 (.t 49), .none⟩, [25], [29, 34, 35, 36, 37], 1⟩ ::
   ⟨⟨(some 51), .fa 5 (.t 3), .none⟩, [], [28, 29, 34, 35, 36, 37], 0⟩ ::
   ⟨⟨(some 52), .ld1 (.t 51), .none⟩, [27], [29, 34, 35, 36, 37], 1⟩ ::
   ⟨⟨(some 53), .call 46 [(.t 50), (.t 52)], .none⟩, [26, 28, 24, 25, 27, 21, 23, 19, 20, 22, 16, 18, 14, 15, 17, 11, 13, 9, 10, 12, 6, 8, 4, 5, 7, 1, 3, 0, 2], [34, 35, 36, 37], 1⟩ ::
   Tryd.fn27_r3e
def Tryd.fn27_r3c : List DIns :=
   ⟨⟨(some 42), .ld1 (.t 41), .none⟩, [17], [19, 24, 29, 34, 35, 36, 37], 1⟩ ::
   ⟨⟨(some 43), .call 45 [(.t 40), (.t 42)], .none⟩, [16, 18, 14, 15, 17, 11, 13, 9, 10, 12, 6, 8, 4, 5, 7, 1, 3, 0, 2], [24, 29, 34, 35, 36, 37], 1⟩ ::
   ⟨⟨(some 44), .fa 4 (.t 2), .none⟩, [], [21, 24, 29, 34, 35, 36, 37], 0⟩ ::
   ⟨⟨(some 45), .ld1 (.t 44), .none⟩, [20], [24, 29, 34, 35, 36, 37], 1⟩ ::
   ⟨⟨(some 46), .fa 4 (.t 3), .none⟩, [], [23, 24, 29, 34, 35, 36, 37], 0⟩ ::
   ⟨⟨(some 47), .ld1 (.t 46), .none⟩, [22], [24, 29, 34, 35, 36, 37], 1⟩ ::
   Tryd.fn27_r3d
def Tryd.fn27_r3b : List DIns :=
   ⟨⟨(some 36), .fa 0 (.t 3), .none⟩, [], [13, 14, 19, 24, 29, 34, 35, 36, 37], 0⟩ ::
   ⟨⟨(some 37), .ld1 (.t 36), .none⟩, [12], [14, 19, 24, 29, 34, 35, 36, 37], 1⟩ ::
   ⟨⟨(some 38), .call 45 [(.t 35), (.t 37)], .none⟩, [11, 13, 9, 10, 12, 6, 8, 4, 5, 7, 1, 3, 0, 2], [19, 24, 29, 34, 35, 36, 37], 1⟩ ::
   ⟨⟨(some 39), .fa 3 (.t 2), .none⟩, [], [16, 19, 24, 29, 34, 35, 36, 37], 0⟩ ::
   ⟨⟨(some 40), .ld1 (.t 39), .none⟩, [15], [19, 24, 29, 34, 35, 36, 37], 1⟩ ::
   ⟨⟨(some 41), .fa 3 (.t 3), .none⟩, [], [18, 19, 24, 29, 34, 35, 36, 37], 0⟩ ::
   Tryd.fn27_r3c
def Tryd.fn27_r3a : List DIns :=
   ⟨⟨(some 30), .ld1 (.t 29), .none⟩, [5], [9, 14, 19, 24, 29, 34, 35, 36, 37], 1⟩ ::
   ⟨⟨(some 31), .fa 2 (.t 3), .none⟩, [], [8, 9, 14, 19, 24, 29, 34, 35, 36, 37], 0⟩ ::
   ⟨⟨(some 32), .ld1 (.t 31), .none⟩, [7], [9, 14, 19, 24, 29, 34, 35, 36, 37], 1⟩ ::
   ⟨⟨(some 33), .call 45 [(.t 30), (.t 32)], .none⟩, [6, 8, 4, 5, 7, 1, 3, 0, 2], [14, 19, 24, 29, 34, 35, 36, 37], 1⟩ ::
   ⟨⟨(some 34), .fa 0 (.t 2), .none⟩, [], [11, 14, 19, 24, 29, 34, 35, 36, 37], 0⟩ ::
   ⟨⟨(some 35), .ld1 (.t 34), .none⟩, [10], [14, 19, 24, 29, 34, 35, 36, 37], 1⟩ ::
   Tryd.fn27_r3b
def Tryd.fn27_r3 : List DIns :=
   ⟨⟨(some 24), .fa 1 (.t 2), .none⟩, [], [1, 4, 9, 14, 19, 24, 29, 34, 35, 36, 37], 0⟩ ::
   ⟨⟨(some 25), .ld1 (.t 24), .none⟩, [0], [4, 9, 14, 19, 24, 29, 34, 35, 36, 37], 1⟩ ::
   ⟨⟨(some 26), .fa 1 (.t 3), .none⟩, [], [3, 4, 9, 14, 19, 24, 29, 34, 35, 36, 37], 0⟩ ::
   ⟨⟨(some 27), .ld1 (.t 26), .none⟩, [2], [4, 9, 14, 19, 24, 29, 34, 35, 36, 37], 1⟩ ::
   ⟨⟨(some 28), .call 45 [(.t 25), (.t 27)], .none⟩, [1, 3, 0, 2], [9, 14, 19, 24, 29, 34, 35, 36, 37], 1⟩ ::
   ⟨⟨(some 29), .fa 2 (.t 2), .none⟩, [], [6, 9, 14, 19, 24, 29, 34, 35, 36, 37], 0⟩ ::
   Tryd.fn27_r3a
def Tryd.fn27 : AFun :=
 ⟨61, [.tmp 4],
 (.seq (.seq (.reg Tryd.fn27_r0)
  (.trim [2, 3]))
 (.seq (.seq (.seq (.regd Tryd.fn27_r1)
   (.trim [2, 3, 23]))
  (.cond (.t 23)
   (.seq (.seq (.reg Tryd.fn27_r2)
    (.trim [4]))
   .ret)
   .skip))
 (.seq (.seq (.regd Tryd.fn27_r3)
  (.trim [4]))
 .ret))), true⟩
/-! slices.Clone[[]signalbench/api.Event,signalbench/api.Event] -/
def Tryd.fn28_r0 : List AIns :=
   [⟨(some 2), .mov (.c .nils), .none⟩]
def Tryd.fn28_r1 : List AIns :=
   [⟨(some 3), .mov (.t 0), .none⟩,
     ⟨(some 4), .eqv false true .slice (.t 3) (.c .nils), .none⟩]
def Tryd.fn28_r2 : List AIns :=
   [⟨(some 2), .mov (.c .nils), .none⟩]
def Tryd.fn28_r3 : List AIns :=
   [⟨(some 5), .bsl 23 7 0 [(.int .i64 0), (.int .i64 0), (.int .i64 0), (.int .i64 0), (.int .i64 0), (.str []), (.int .i64 0)] [], .none⟩,
    ⟨(some 6), .mov (.t 0), .none⟩,
    ⟨(some 7), .app 23 7 64 (.t 5) (.t 6), .none⟩,
    ⟨(some 2), .mov (.t 7), .none⟩]
def Tryd.fn28 : AFun :=
 ⟨8, [.tmp 2],
 (.seq (.seq (.reg Tryd.fn28_r0)
  (.trim [0]))
 (.seq (.seq (.seq (.reg Tryd.fn28_r1)
   (.trim [0, 4]))
  (.cond (.t 4)
   (.seq (.seq (.reg Tryd.fn28_r2)
    (.trim [2]))
   .ret)
   .skip))
 (.seq (.seq (.reg Tryd.fn28_r3)
  (.trim [2]))
 .ret))), true⟩
/-! signalbench/event.kinds -/
def Tryd.fn29_r0 : List AIns :=
   [⟨(some 0), .mov (.c .nils), .none⟩]
def Tryd.fn29_r1 : List AIns :=
   [⟨(some 1), .bsl 9 1 8 [(.str [])] [(0, 1, (.c (.str [108, 101, 118, 101, 108]))), (1, 1, (.c (.str [98, 105, 116]))), (2, 1, (.c (.str [98, 121, 116, 101]))), (3, 1, (.c (.str [109, 97, 114, 107]))), (4, 1, (.c (.str [102, 114, 97, 109, 101]))), (5, 1, (.c (.str [112, 97, 99, 107, 101, 116]))), (6, 1, (.c (.str [99, 111, 109, 109, 97, 110, 100]))), (7, 1, (.c (.str [112, 97, 105, 114])))], .none⟩,
    ⟨(some 0), .mov (.t 1), .none⟩]
def Tryd.fn29 : AFun :=
 ⟨2, [.tmp 0],
 (.seq (.seq (.reg Tryd.fn29_r0)
  (.trim []))
 (.seq (.seq (.reg Tryd.fn29_r1)
  (.trim [0]))
 .ret)), true⟩
/-! signalbench/lex.Quote -/
def Tryd.fn32_r0 : List AIns :=
   [⟨(some 2), .mov (.c (.str [])), .none⟩]
def Tryd.fn32_r1 : List AIns :=
   [⟨(some 3), .alloc 70 [.nilp, .nils], .none⟩]
def Tryd.fn32_r2 : List AIns :=
   [⟨(some 6), .call 51 [(.t 3), (.c (.int .u8 34))], .none⟩]
def Tryd.fn32_r3 : List AIns :=
   [⟨(some 7), .mov (.t 0), .none⟩,
     ⟨(some 8), .lens (.t 7), .none⟩,
     ⟨(some 9), .mov (.c (.int .i64 0)), .none⟩]
def Tryd.fn32_r4 : List AIns :=
   [⟨(some 10), .bin .lss (.t 9) (.t 8), .none⟩]
def Tryd.fn32_r5 : List AIns :=
   [⟨(some 11), .mov (.t 9), .none⟩,
         ⟨(some 4), .mov (.t 11), .none⟩]
def Tryd.fn32_r6 : List AIns :=
   [⟨(some 12), .mov (.t 0), .none⟩,
         ⟨(some 13), .mov (.t 4), .none⟩,
         ⟨(some 14), .ids (.t 12) (.t 13), .none⟩,
         ⟨(some 5), .mov (.t 14), .none⟩]
def Tryd.fn32_r7 : List AIns :=
   [⟨(some 25), .mov (.t 5), .none⟩,
          ⟨(some 26), .conv .i32 (.t 25), .none⟩,
          ⟨(some 27), .call 52 [(.t 26)], .none⟩,
          ⟨(some 24), .mov (.t 27), .none⟩]
def Tryd.fn32_r8 : List AIns :=
   [⟨(some 28), .mov (.t 5), .none⟩,
          ⟨(some 29), .call 51 [(.t 3), (.t 28)], .none⟩]
def Tryd.fn32_r9 : List AIns :=
   [⟨(some 31), .mov (.t 5), .none⟩,
           ⟨(some 32), .bin .eql (.t 31) (.c (.int .u8 34)), .none⟩,
           ⟨(some 33), .mov (.t 32), .none⟩,
           ⟨(some 34), .mov (.t 5), (some (33, false))⟩,
           ⟨(some 35), .bin .eql (.t 34) (.c (.int .u8 92)), (some (33, false))⟩,
           ⟨(some 36), .pick (.t 33) (.c (.bool true)) (.t 35), .none⟩,
           ⟨(some 30), .mov (.t 36), .none⟩]
def Tryd.fn32_r10 : List AIns :=
   [⟨(some 37), .call 51 [(.t 3), (.c (.int .u8 92))], .none⟩]
def Tryd.fn32_r11 : List AIns :=
   [⟨(some 38), .mov (.t 5), .none⟩,
           ⟨(some 39), .call 51 [(.t 3), (.t 38)], .none⟩]
def Tryd.fn32_r12 : List AIns :=
   [⟨(some 41), .mov (.t 5), .none⟩,
            ⟨(some 42), .bin .eql (.t 41) (.c (.int .u8 10)), .none⟩,
            ⟨(some 40), .mov (.t 42), .none⟩]
def Tryd.fn32_r13 : List AIns :=
   [⟨(some 43), .call 49 [(.t 3), (.c (.str [92, 110]))], .none⟩]
def Tryd.fn32_r14 : List AIns :=
   [⟨(some 15), .call 49 [(.t 3), (.c (.str [92, 120]))], .none⟩]
def Tryd.fn32_r15 : List AIns :=
   [⟨(some 16), .mov (.t 5), .none⟩,
             ⟨(some 17), .bin .shr (.t 16) (.c (.int .u64 4)), .none⟩,
             ⟨(some 18), .ids (.c (.str [48, 49, 50, 51, 52, 53, 54, 55, 56, 57, 97, 98, 99, 100, 101, 102])) (.t 17), .none⟩,
             ⟨(some 19), .call 51 [(.t 3), (.t 18)], .none⟩]
def Tryd.fn32_r16 : List AIns :=
   [⟨(some 20), .mov (.t 5), .none⟩,
            ⟨(some 21), .bin .and (.t 20) (.c (.int .u8 15)), .none⟩,
            ⟨(some 22), .ids (.c (.str [48, 49, 50, 51, 52, 53, 54, 55, 56, 57, 97, 98, 99, 100, 101, 102])) (.t 21), .none⟩,
            ⟨(some 23), .call 51 [(.t 3), (.t 22)], .none⟩]
def Tryd.fn32_r17 : List AIns :=
   [⟨(some 44), .bin .add (.t 9) (.c (.int .i64 1)), .none⟩,
      ⟨(some 9), .mov (.t 44), .none⟩]
def Tryd.fn32_r18 : List AIns :=
   [⟨(some 45), .call 51 [(.t 3), (.c (.int .u8 34))], .none⟩]
def Tryd.fn32_r19 : List AIns :=
   [⟨(some 46), .call 50 [(.t 3)], .none⟩,
    ⟨(some 2), .mov (.t 46), .none⟩]
def Tryd.fn32_l0 : ACode :=
 (.seq (.seq (.reg Tryd.fn32_r4)
     (.trim [0, 3, 8, 9, 10]))
    (.seq (.cond (.t 10)
      .skip
      (.exit 0))
    (.seq (.block 1
      (.seq (.seq (.reg Tryd.fn32_r5)
       (.trim [0, 3, 4, 8, 9]))
      (.seq (.seq (.reg Tryd.fn32_r6)
       (.trim [0, 3, 5, 8, 9]))
      (.block 2
       (.seq (.seq (.reg Tryd.fn32_r7)
        (.trim [0, 3, 5, 8, 9, 24]))
       (.cond (.t 24)
        (.seq (.reg Tryd.fn32_r8)
        (.trim [0, 3, 8, 9]))
        (.seq (.seq (.reg Tryd.fn32_r9)
         (.trim [0, 3, 5, 8, 9, 30]))
        (.cond (.t 30)
         (.seq (.seq (.reg Tryd.fn32_r10)
          (.trim [0, 3, 5, 8, 9]))
         (.seq (.reg Tryd.fn32_r11)
         (.trim [0, 3, 8, 9])))
         (.seq (.seq (.reg Tryd.fn32_r12)
          (.trim [0, 3, 5, 8, 9, 40]))
         (.cond (.t 40)
          (.seq (.reg Tryd.fn32_r13)
          (.trim [0, 3, 8, 9]))
          (.seq (.seq (.reg Tryd.fn32_r14)
           (.trim [0, 3, 5, 8, 9]))
          (.seq (.seq (.reg Tryd.fn32_r15)
           (.trim [0, 3, 5, 8, 9]))
          (.seq (.reg Tryd.fn32_r16)
          (.trim [0, 3, 8, 9]))))))))))))))
    (.seq (.reg Tryd.fn32_r17)
    (.trim [0, 3, 8, 9])))))
def Tryd.fn32 : AFun :=
 ⟨47, [.tmp 2],
 (.seq (.seq (.reg Tryd.fn32_r0)
  (.trim [0]))
 (.seq (.seq (.reg Tryd.fn32_r1)
  (.trim [0, 3]))
 (.seq (.seq (.reg Tryd.fn32_r2)
  (.trim [0, 3]))
 (.seq (.seq (.seq (.reg Tryd.fn32_r3)
   (.trim [0, 3, 8, 9]))
  (.block 0
   (.loop (some [0, 3, 8, 9])
    Tryd.fn32_l0)))
 (.seq (.seq (.reg Tryd.fn32_r18)
  (.trim [3]))
 (.seq (.seq (.reg Tryd.fn32_r19)
  (.trim [2]))
 .ret)))))), true⟩
/-! signalbench/signalbenchref07.names -/
def Tryd.fn33_r0 : List AIns :=
   [⟨(some 0), .mov (.c .nils), .none⟩]
def Tryd.fn33_r1 : List AIns :=
   [⟨(some 1), .bsl 9 1 8 [(.str [])] [(0, 1, (.c (.str [108, 101, 118, 101, 108]))), (1, 1, (.c (.str [98, 105, 116]))), (2, 1, (.c (.str [98, 121, 116, 101]))), (3, 1, (.c (.str [109, 97, 114, 107]))), (4, 1, (.c (.str [102, 114, 97, 109, 101]))), (5, 1, (.c (.str [112, 97, 99, 107, 101, 116]))), (6, 1, (.c (.str [99, 111, 109, 109, 97, 110, 100]))), (7, 1, (.c (.str [112, 97, 105, 114])))], .none⟩,
    ⟨(some 0), .mov (.t 1), .none⟩]
def Tryd.fn33 : AFun :=
 ⟨2, [.tmp 0],
 (.seq (.seq (.reg Tryd.fn33_r0)
  (.trim []))
 (.seq (.seq (.reg Tryd.fn33_r1)
  (.trim [0]))
 .ret)), true⟩
/-! signalbench/signalbenchref07.decimal -/
def Tryd.fn34_r0 : List AIns :=
   [⟨(some 2), .mov (.c (.str [])), .none⟩]
def Tryd.fn34_r1 : List AIns :=
   [⟨(some 3), .mov (.t 0), .none⟩,
     ⟨(some 4), .bin .lss (.t 3) (.c (.int .i64 0)), .none⟩]
def Tryd.fn34_r2 : List AIns :=
   [⟨(some 5), .mov (.t 0), .none⟩,
      ⟨(some 6), .un .neg (.t 5), .none⟩,
      ⟨(some 7), .call 53 [(.t 6)], .none⟩,
      ⟨(some 8), .bin .add (.c (.str [45])) (.t 7), .none⟩,
      ⟨(some 2), .mov (.t 8), .none⟩]
def Tryd.fn34_r3 : List AIns :=
   [⟨(some 9), .mov (.t 0), .none⟩,
    ⟨(some 10), .call 53 [(.t 9)], .none⟩,
    ⟨(some 2), .mov (.t 10), .none⟩]
def Tryd.fn34 : AFun :=
 ⟨11, [.tmp 2],
 (.seq (.seq (.reg Tryd.fn34_r0)
  (.trim [0]))
 (.seq (.seq (.seq (.reg Tryd.fn34_r1)
   (.trim [0, 4]))
  (.cond (.t 4)
   (.seq (.seq (.reg Tryd.fn34_r2)
    (.trim [2]))
   .ret)
   .skip))
 (.seq (.seq (.reg Tryd.fn34_r3)
  (.trim [2]))
 .ret))), true⟩
/-! signalbench/signalbenchref05.Quote -/
def Tryd.fn35_r0 : List AIns :=
   [⟨(some 2), .mov (.c (.str [])), .none⟩]
def Tryd.fn35_r1 : List AIns :=
   [⟨(some 3), .mov (.c (.str [48, 49, 50, 51, 52, 53, 54, 55, 56, 57, 97, 98, 99, 100, 101, 102])), .none⟩]
def Tryd.fn35_r2 : List AIns :=
   [⟨(some 7), .bsl 5 1 1 [(.int .u8 0)] [(0, 1, (.c (.int .u8 34)))], .none⟩,
    ⟨(some 4), .mov (.t 7), .none⟩]
def Tryd.fn35_r3 : List AIns :=
   [⟨(some 5), .mov (.c (.int .i64 0)), .none⟩]
def Tryd.fn35_r4 : List AIns :=
   [⟨(some 8), .mov (.t 5), .none⟩,
        ⟨(some 9), .mov (.t 0), .none⟩,
        ⟨(some 10), .lens (.t 9), .none⟩,
        ⟨(some 11), .bin .lss (.t 8) (.t 10), .none⟩]
def Tryd.fn35_r5 : List AIns :=
   [⟨(some 14), .mov (.t 0), .none⟩,
         ⟨(some 15), .mov (.t 5), .none⟩,
         ⟨(some 16), .ids (.t 14) (.t 15), .none⟩,
         ⟨(some 6), .mov (.t 16), .none⟩]
def Tryd.fn35_r6 : List AIns :=
   [⟨(some 17), .mov (.t 6), .none⟩,
         ⟨(some 18), .bin .eql (.t 17) (.c (.int .u8 34)), .none⟩,
         ⟨(some 19), .mov (.t 18), .none⟩,
         ⟨(some 20), .mov (.t 6), (some (19, false))⟩,
         ⟨(some 21), .bin .eql (.t 20) (.c (.int .u8 92)), (some (19, false))⟩,
         ⟨(some 22), .pick (.t 19) (.c (.bool true)) (.t 21), .none⟩]
def Tryd.fn35_r7 : List AIns :=
   [⟨(some 23), .mov (.t 4), .none⟩,
         ⟨(some 24), .mov (.t 6), .none⟩,
         ⟨(some 25), .bsl 5 1 2 [(.int .u8 0)] [(0, 1, (.c (.int .u8 92))), (1, 1, (.t 24))], .none⟩,
         ⟨(some 26), .app 5 1 1 (.t 23) (.t 25), .none⟩,
         ⟨(some 4), .mov (.t 26), .none⟩]
def Tryd.fn35_r8 : List AIns :=
   [⟨(some 27), .mov (.t 6), .none⟩,
          ⟨(some 28), .bin .eql (.t 27) (.c (.int .u8 10)), .none⟩]
def Tryd.fn35_r9 : List AIns :=
   [⟨(some 29), .mov (.t 4), .none⟩,
          ⟨(some 30), .bsl 5 1 2 [(.int .u8 0)] [(0, 1, (.c (.int .u8 92))), (1, 1, (.c (.int .u8 110)))], .none⟩,
          ⟨(some 31), .app 5 1 1 (.t 29) (.t 30), .none⟩,
          ⟨(some 4), .mov (.t 31), .none⟩]
def Tryd.fn35_r10 : List AIns :=
   [⟨(some 32), .mov (.t 6), .none⟩,
           ⟨(some 33), .bin .lss (.t 32) (.c (.int .u8 32)), .none⟩,
           ⟨(some 34), .mov (.t 33), .none⟩,
           ⟨(some 35), .mov (.t 6), (some (34, false))⟩,
           ⟨(some 36), .bin .gtr (.t 35) (.c (.int .u8 126)), (some (34, false))⟩,
           ⟨(some 37), .pick (.t 34) (.c (.bool true)) (.t 36), .none⟩]
def Tryd.fn35_r11a : List DIns :=
   ⟨⟨(some 44), .mov (.t 6), .none⟩, [], [7, 8, 9, 10, 11], 0⟩ ::
   ⟨⟨(some 45), .bin .rem (.t 44) (.c (.int .u8 16)), .none⟩, [6], [8, 9, 10, 11], 0⟩ ::
   ⟨⟨(some 46), .ids (.t 43) (.t 45), .none⟩, [5, 7, 6], [9, 10, 11], 0⟩ ::
   ⟨⟨(some 47), .bsl 5 1 4 [(.int .u8 0)] [(0, 1, (.c (.int .u8 92))), (1, 1, (.c (.int .u8 120))), (2, 1, (.t 42)), (3, 1, (.t 46))], .none⟩, [4, 8, 1, 3, 2, 5, 7, 6], [10, 11], 2⟩ ::
   ⟨⟨(some 48), .app 5 1 1 (.t 38) (.t 47), .none⟩, [0, 9, 4, 8, 1, 3, 2, 5, 7, 6], [11], 2⟩ ::
   ⟨⟨(some 4), .mov (.t 48), .none⟩, [10, 0, 1, 2, 3, 4, 5, 6, 7, 8, 9], [], 0⟩ ::
   []
def Tryd.fn35_r11 : List DIns :=
   ⟨⟨(some 38), .mov (.t 4), .none⟩, [], [10, 11], 0⟩ ::
   ⟨⟨(some 39), .mov (.t 3), .none⟩, [], [4, 9, 10, 11], 0⟩ ::
   ⟨⟨(some 40), .mov (.t 6), .none⟩, [], [3, 4, 9, 10, 11], 0⟩ ::
   ⟨⟨(some 41), .bin .quo (.t 40) (.c (.int .u8 16)), .none⟩, [2], [4, 9, 10, 11], 0⟩ ::
   ⟨⟨(some 42), .ids (.t 39) (.t 41), .none⟩, [1, 3, 2], [9, 10, 11], 0⟩ ::
   ⟨⟨(some 43), .mov (.t 3), .none⟩, [], [8, 9, 10, 11], 0⟩ ::
   Tryd.fn35_r11a
def Tryd.fn35_r12 : List AIns :=
   [⟨(some 49), .mov (.t 4), .none⟩,
           ⟨(some 50), .mov (.t 6), .none⟩,
           ⟨(some 51), .bsl 5 1 1 [(.int .u8 0)] [(0, 1, (.t 50))], .none⟩,
           ⟨(some 52), .app 5 1 1 (.t 49) (.t 51), .none⟩,
           ⟨(some 4), .mov (.t 52), .none⟩]
def Tryd.fn35_r13 : List AIns :=
   [⟨(some 12), .mov (.t 5), .none⟩,
      ⟨(some 13), .bin .add (.t 12) (.c (.int .i64 1)), .none⟩,
      ⟨(some 5), .mov (.t 13), .none⟩]
def Tryd.fn35_r14 : List AIns :=
   [⟨(some 53), .mov (.t 4), .none⟩,
    ⟨(some 54), .bsl 5 1 1 [(.int .u8 0)] [(0, 1, (.c (.int .u8 34)))], .none⟩,
    ⟨(some 55), .app 5 1 1 (.t 53) (.t 54), .none⟩,
    ⟨(some 56), .b2s (.t 55), .none⟩,
    ⟨(some 2), .mov (.t 56), .none⟩]
def Tryd.fn35_l0 : ACode :=
 (.seq (.seq (.seq (.reg Tryd.fn35_r4)
      (.trim [0, 3, 4, 5, 11]))
     (.cond (.t 11)
      .skip
      (.exit 0)))
    (.seq (.block 1
      (.seq (.seq (.reg Tryd.fn35_r5)
       (.trim [0, 3, 4, 5, 6]))
      (.seq (.seq (.reg Tryd.fn35_r6)
       (.trim [0, 3, 4, 5, 6, 22]))
      (.cond (.t 22)
       (.seq (.reg Tryd.fn35_r7)
       (.trim [0, 3, 4, 5]))
       (.seq (.seq (.reg Tryd.fn35_r8)
        (.trim [0, 3, 4, 5, 6, 28]))
       (.cond (.t 28)
        (.seq (.reg Tryd.fn35_r9)
        (.trim [0, 3, 4, 5]))
        (.seq (.seq (.reg Tryd.fn35_r10)
         (.trim [0, 3, 4, 5, 6, 37]))
        (.cond (.t 37)
         (.seq (.regd Tryd.fn35_r11)
         (.trim [0, 3, 4, 5]))
         (.seq (.reg Tryd.fn35_r12)
         (.trim [0, 3, 4, 5]))))))))))
    (.seq (.reg Tryd.fn35_r13)
    (.trim [0, 3, 4, 5]))))
def Tryd.fn35 : AFun :=
 ⟨57, [.tmp 2],
 (.seq (.seq (.reg Tryd.fn35_r0)
  (.trim [0]))
 (.seq (.seq (.reg Tryd.fn35_r1)
  (.trim [0, 3]))
 (.seq (.seq (.reg Tryd.fn35_r2)
  (.trim [0, 3, 4]))
 (.seq (.seq (.seq (.reg Tryd.fn35_r3)
   (.trim [0, 3, 4, 5]))
  (.block 0
   (.loop (some [0, 3, 4, 5])
    Tryd.fn35_l0)))
 (.seq (.seq (.reg Tryd.fn35_r14)
  (.trim [2]))
 .ret))))), true⟩
/-! slices.Index[[]string,string] -/
def Tryd.fn37_r0 : List AIns :=
   [⟨(some 4), .mov (.c (.int .i64 0)), .none⟩]
def Tryd.fn37_r1 : List AIns :=
   [⟨(some 6), .mov (.t 0), .none⟩,
     ⟨(some 7), .lenl (.t 6), .none⟩,
     ⟨(some 8), .mov (.c (.int .i64 0)), .none⟩]
def Tryd.fn37_r2 : List AIns :=
   [⟨(some 9), .bin .lss (.t 8) (.t 7), .none⟩]
def Tryd.fn37_r3 : List AIns :=
   [⟨(some 10), .mov (.t 8), .none⟩,
         ⟨(some 5), .mov (.t 10), .none⟩]
def Tryd.fn37_r4 : List AIns :=
   [⟨(some 11), .mov (.t 1), .none⟩,
         ⟨(some 12), .mov (.t 0), .none⟩,
         ⟨(some 13), .mov (.t 5), .none⟩,
         ⟨(some 14), .ia 1 (.t 12) (.t 13), .none⟩,
         ⟨(some 15), .ld1 (.t 14), .none⟩,
         ⟨(some 16), .bin .eql (.t 11) (.t 15), .none⟩]
def Tryd.fn37_r5 : List AIns :=
   [⟨(some 17), .mov (.t 5), .none⟩,
          ⟨(some 4), .mov (.t 17), .none⟩]
def Tryd.fn37_r6 : List AIns :=
   [⟨(some 18), .bin .add (.t 8) (.c (.int .i64 1)), .none⟩,
      ⟨(some 8), .mov (.t 18), .none⟩]
def Tryd.fn37_r7 : List AIns :=
   [⟨(some 4), .mov (.c (.int .i64 (-1))), .none⟩]
def Tryd.fn37_l0 : ACode :=
 (.seq (.seq (.reg Tryd.fn37_r2)
     (.trim [0, 1, 7, 8, 9]))
    (.seq (.cond (.t 9)
      .skip
      (.exit 0))
    (.seq (.block 1
      (.seq (.seq (.reg Tryd.fn37_r3)
       (.trim [0, 1, 5, 7, 8]))
      (.seq (.seq (.reg Tryd.fn37_r4)
       (.trim [0, 1, 5, 7, 8, 16]))
      (.cond (.t 16)
       (.seq (.seq (.reg Tryd.fn37_r5)
        (.trim [4]))
       .ret)
       .skip))))
    (.seq (.reg Tryd.fn37_r6)
    (.trim [0, 1, 7, 8])))))
def Tryd.fn37 : AFun :=
 ⟨19, [.tmp 4],
 (.seq (.seq (.reg Tryd.fn37_r0)
  (.trim [0, 1]))
 (.seq (.seq (.seq (.reg Tryd.fn37_r1)
   (.trim [0, 1, 7, 8]))
  (.block 0
   (.loop (some [0, 1, 7, 8])
    Tryd.fn37_l0)))
 (.seq (.seq (.reg Tryd.fn37_r7)
  (.trim [4]))
 .ret))), true⟩
/-! signalbench/lex.Unquote -/
def Tryd.fn38_r0 : List AIns :=
   [⟨(some 2), .mov (.c (.str [])), .none⟩,
    ⟨(some 3), .mov (.c (.int .i64 0)), .none⟩]
def Tryd.fn38_r1 : List AIns :=
   [⟨(some 7), .mov (.t 0), .none⟩,
      ⟨(some 8), .lens (.t 7), .none⟩,
      ⟨(some 9), .bin .lss (.t 8) (.c (.int .i64 2)), .none⟩,
      ⟨(some 10), .mov (.t 9), .none⟩,
      ⟨(some 11), .mov (.t 0), (some (10, false))⟩,
      ⟨(some 12), .ids (.t 11) (.c (.int .i64 0)), (some (10, false))⟩,
      ⟨(some 13), .bin .neq (.t 12) (.c (.int .u8 34)), (some (10, false))⟩,
      ⟨(some 14), .pick (.t 10) (.c (.bool true)) (.t 13), .none⟩,
      ⟨(some 15), .mov (.t 14), .none⟩,
      ⟨(some 16), .mov (.t 0), (some (15, false))⟩]
def Tryd.fn38_r2 : List AIns :=
   [⟨(some 17), .mov (.t 0), (some (15, false))⟩,
     ⟨(some 18), .lens (.t 17), (some (15, false))⟩,
     ⟨(some 19), .bin .sub (.t 18) (.c (.int .i64 1)), (some (15, false))⟩,
     ⟨(some 20), .ids (.t 16) (.t 19), (some (15, false))⟩,
     ⟨(some 21), .bin .neq (.t 20) (.c (.int .u8 34)), (some (15, false))⟩,
     ⟨(some 22), .pick (.t 15) (.c (.bool true)) (.t 21), .none⟩]
def Tryd.fn38_r3 : List AIns :=
   [⟨(some 2), .mov (.c (.str [])), .none⟩,
      ⟨(some 3), .mov (.c (.int .i64 4)), .none⟩]
def Tryd.fn38_r4 : List AIns :=
   [⟨(some 23), .mov (.t 0), .none⟩,
    ⟨(some 24), .mov (.t 0), .none⟩,
    ⟨(some 25), .lens (.t 24), .none⟩,
    ⟨(some 26), .bin .sub (.t 25) (.c (.int .i64 1)), .none⟩,
    ⟨(some 27), .sub (.t 23) (some (.c (.int .i64 1))) (some (.t 26)), .none⟩,
    ⟨(some 0), .mov (.t 27), .none⟩]
def Tryd.fn38_r5 : List AIns :=
   [⟨(some 4), .mov (.c .nils), .none⟩]
def Tryd.fn38_r6 : List AIns :=
   [⟨(some 28), .mov (.t 0), .none⟩,
        ⟨(some 29), .bin .neq (.t 28) (.c (.str [])), .none⟩]
def Tryd.fn38_r7 : List AIns :=
   [⟨(some 30), .mov (.t 0), .none⟩,
         ⟨(some 31), .ids (.t 30) (.c (.int .i64 0)), .none⟩,
         ⟨(some 32), .conv .i32 (.t 31), .none⟩,
         ⟨(some 33), .call 52 [(.t 32)], .none⟩]
def Tryd.fn38_r8a : List DIns :=
   ⟨⟨(some 40), .sub (.t 39) (some (.c (.int .i64 1))) .none, .none⟩, [5], [8], 0⟩ ::
   ⟨⟨(some 4), .mov (.t 38), .none⟩, [4, 0, 1, 2, 3], [8], 0⟩ ::
   ⟨⟨(some 0), .mov (.t 40), .none⟩, [6, 7, 0, 1, 2, 3, 4, 5], [], 0⟩ ::
   []
def Tryd.fn38_r8 : List DIns :=
   ⟨⟨(some 34), .mov (.t 4), .none⟩, [], [4, 7, 8], 0⟩ ::
   ⟨⟨(some 35), .mov (.t 0), .none⟩, [], [2, 3, 4, 7, 8], 0⟩ ::
   ⟨⟨(some 36), .ids (.t 35) (.c (.int .i64 0)), .none⟩, [1], [3, 4, 7, 8], 0⟩ ::
   ⟨⟨(some 37), .bsl 5 1 1 [(.int .u8 0)] [(0, 1, (.t 36))], .none⟩, [2, 1], [4, 7, 8], 2⟩ ::
   ⟨⟨(some 38), .app 5 1 1 (.t 34) (.t 37), .none⟩, [0, 3, 2, 1], [7, 8], 2⟩ ::
   ⟨⟨(some 39), .mov (.t 0), .none⟩, [], [6, 8], 0⟩ ::
   Tryd.fn38_r8a
def Tryd.fn38_r9 : List AIns :=
   [⟨(some 5), .mov (.c (.int .u8 0)), .none⟩,
        ⟨(some 6), .mov (.c (.int .i64 0)), .none⟩]
def Tryd.fn38_r10 : List AIns :=
   [⟨(some 41), .mov (.t 0), .none⟩,
         ⟨(some 42), .ids (.t 41) (.c (.int .i64 0)), .none⟩,
         ⟨(some 43), .bin .eql (.t 42) (.c (.int .u8 92)), .none⟩]
def Tryd.fn38_r11 : List AIns :=
   [⟨(some 45), .mov (.t 0), .none⟩,
         ⟨(some 46), .call 55 [(.t 45)], .none⟩,
         ⟨(some 44), .mov (.t 46), .none⟩,
         ⟨(some 47), .ext 0 (.t 44), .none⟩,
         ⟨(some 48), .ext 1 (.t 44), .none⟩,
         ⟨(some 5), .mov (.t 47), .none⟩,
         ⟨(some 6), .mov (.t 48), .none⟩]
def Tryd.fn38_r12 : List AIns :=
   [⟨(some 49), .mov (.t 6), .none⟩,
         ⟨(some 50), .bin .eql (.t 49) (.c (.int .i64 0)), .none⟩]
def Tryd.fn38_r13 : List AIns :=
   [⟨(some 2), .mov (.c (.str [])), .none⟩,
          ⟨(some 3), .mov (.c (.int .i64 4)), .none⟩]
def Tryd.fn38_r14a : List DIns :=
   ⟨⟨(some 57), .sub (.t 55) (some (.t 56)) .none, .none⟩, [4, 5], [8], 0⟩ ::
   ⟨⟨(some 4), .mov (.t 54), .none⟩, [3, 0, 1, 2], [8], 0⟩ ::
   ⟨⟨(some 0), .mov (.t 57), .none⟩, [6, 7, 0, 1, 2, 3, 4, 5], [], 0⟩ ::
   []
def Tryd.fn38_r14 : List DIns :=
   ⟨⟨(some 51), .mov (.t 4), .none⟩, [], [3, 7, 8], 0⟩ ::
   ⟨⟨(some 52), .mov (.t 5), .none⟩, [], [2, 3, 7, 8], 0⟩ ::
   ⟨⟨(some 53), .bsl 5 1 1 [(.int .u8 0)] [(0, 1, (.t 52))], .none⟩, [1], [3, 7, 8], 2⟩ ::
   ⟨⟨(some 54), .app 5 1 1 (.t 51) (.t 53), .none⟩, [0, 2, 1], [7, 8], 2⟩ ::
   ⟨⟨(some 55), .mov (.t 0), .none⟩, [], [6, 8], 0⟩ ::
   ⟨⟨(some 56), .mov (.t 6), .none⟩, [], [6, 8], 0⟩ ::
   Tryd.fn38_r14a
def Tryd.fn38_r15 : List AIns :=
   [⟨(some 58), .mov (.t 4), .none⟩,
    ⟨(some 59), .b2s (.t 58), .none⟩,
    ⟨(some 2), .mov (.t 59), .none⟩,
    ⟨(some 3), .mov (.c (.int .i64 0)), .none⟩]
def Tryd.fn38_l0 : ACode :=
 (.seq (.seq (.seq (.reg Tryd.fn38_r6)
      (.trim [0, 4, 29]))
     (.cond (.t 29)
      .skip
      (.exit 0)))
    (.block 1
     (.seq (.seq (.seq (.reg Tryd.fn38_r7)
       (.trim [0, 4, 33]))
      (.cond (.t 33)
       (.seq (.seq (.regd Tryd.fn38_r8)
        (.trim [0, 4]))
       (.exit 1))
       .skip))
     (.seq (.seq (.reg Tryd.fn38_r9)
      (.trim [0, 4, 5, 6]))
     (.seq (.seq (.seq (.reg Tryd.fn38_r10)
       (.trim [0, 4, 5, 6, 43]))
      (.cond (.t 43)
       (.seq (.reg Tryd.fn38_r11)
       (.trim [0, 4, 5, 6]))
       .skip))
     (.seq (.seq (.seq (.reg Tryd.fn38_r12)
       (.trim [0, 4, 5, 6, 50]))
      (.cond (.t 50)
       (.seq (.seq (.reg Tryd.fn38_r13)
        (.trim [2, 3]))
       .ret)
       .skip))
     (.seq (.regd Tryd.fn38_r14)
     (.trim [0, 4]))))))))
def Tryd.fn38 : AFun :=
 ⟨60, [.tmp 2, .tmp 3],
 (.seq (.seq (.reg Tryd.fn38_r0)
  (.trim [0]))
 (.seq (.seq (.seq (.seq (.reg Tryd.fn38_r1)
    (.trim [0, 15, 16]))
   (.seq (.reg Tryd.fn38_r2)
   (.trim [0, 22])))
  (.cond (.t 22)
   (.seq (.seq (.reg Tryd.fn38_r3)
    (.trim [2, 3]))
   .ret)
   .skip))
 (.seq (.seq (.reg Tryd.fn38_r4)
  (.trim [0]))
 (.seq (.seq (.reg Tryd.fn38_r5)
  (.trim [0, 4]))
 (.seq (.block 0
   (.loop (some [0, 4])
    Tryd.fn38_l0))
 (.seq (.seq (.reg Tryd.fn38_r15)
  (.trim [2, 3]))
 .ret)))))), true⟩
/-! signalbench/event.number -/
def Tryd.fn39_r0 : List AIns :=
   [⟨(some 2), .mov (.c (.int .i64 0)), .none⟩,
    ⟨(some 3), .mov (.c (.bool false)), .none⟩,
    ⟨(some 4), .mov (.c (.bool false)), .none⟩]
def Tryd.fn39_r1 : List AIns :=
   [⟨(some 8), .mov (.t 0), .none⟩,
    ⟨(some 9), .call 56 [(.t 8), (.c (.str [45]))], .none⟩,
    ⟨(some 5), .mov (.t 9), .none⟩]
def Tryd.fn39_r2 : List AIns :=
   [⟨(some 10), .mov (.t 5), .none⟩,
      ⟨(some 11), .bin .eql (.t 10) (.c (.str [])), .none⟩,
      ⟨(some 12), .mov (.t 11), .none⟩,
      ⟨(some 13), .mov (.t 5), (some (12, false))⟩,
      ⟨(some 14), .ids (.t 13) (.c (.int .i64 0)), (some (12, false))⟩,
      ⟨(some 15), .bin .eql (.t 14) (.c (.int .u8 48)), (some (12, false))⟩,
      ⟨(some 16), .mov (.t 15), (some (12, false))⟩,
      ⟨(some 17), .mov (.t 0), (some (16, true))⟩,
      ⟨(some 18), .bin .neq (.t 17) (.c (.str [48])), (some (16, true))⟩,
      ⟨(some 19), .pick (.t 16) (.t 18) (.c (.bool false)), (some (12, false))⟩]
def Tryd.fn39_r3 : List AIns :=
   [⟨(some 20), .pick (.t 12) (.c (.bool true)) (.t 19), .none⟩]
def Tryd.fn39_r4 : List AIns :=
   [⟨(some 2), .mov (.c (.int .i64 0)), .none⟩,
      ⟨(some 3), .mov (.c (.bool false)), .none⟩,
      ⟨(some 4), .mov (.c (.bool false)), .none⟩]
def Tryd.fn39_r5 : List AIns :=
   [⟨(some 21), .mov (.t 5), .none⟩,
     ⟨(some 22), .lens (.t 21), .none⟩,
     ⟨(some 23), .mov (.c (.int .i64 0)), .none⟩]
def Tryd.fn39_r6 : List AIns :=
   [⟨(some 24), .bin .lss (.t 23) (.t 22), .none⟩]
def Tryd.fn39_r7 : List AIns :=
   [⟨(some 25), .mov (.t 23), .none⟩,
         ⟨(some 6), .mov (.t 25), .none⟩]
def Tryd.fn39_r8 : List AIns :=
   [⟨(some 26), .mov (.t 5), .none⟩,
         ⟨(some 27), .mov (.t 6), .none⟩,
         ⟨(some 28), .ids (.t 26) (.t 27), .none⟩,
         ⟨(some 29), .bin .lss (.t 28) (.c (.int .u8 48)), .none⟩,
         ⟨(some 30), .mov (.t 29), .none⟩,
         ⟨(some 31), .mov (.t 5), (some (30, false))⟩,
         ⟨(some 32), .mov (.t 6), (some (30, false))⟩,
         ⟨(some 33), .ids (.t 31) (.t 32), (some (30, false))⟩,
         ⟨(some 34), .bin .gtr (.t 33) (.c (.int .u8 57)), (some (30, false))⟩,
         ⟨(some 35), .pick (.t 30) (.c (.bool true)) (.t 34), .none⟩]
def Tryd.fn39_r9 : List AIns :=
   [⟨(some 2), .mov (.c (.int .i64 0)), .none⟩,
          ⟨(some 3), .mov (.c (.bool false)), .none⟩,
          ⟨(some 4), .mov (.c (.bool false)), .none⟩]
def Tryd.fn39_r10 : List AIns :=
   [⟨(some 36), .bin .add (.t 23) (.c (.int .i64 1)), .none⟩,
      ⟨(some 23), .mov (.t 36), .none⟩]
def Tryd.fn39_r11 : List AIns :=
   [⟨(some 38), .mov (.t 0), .none⟩,
    ⟨(some 39), .call 57 [(.t 38)], .none⟩,
    ⟨(some 37), .mov (.t 39), .none⟩,
    ⟨(some 40), .ext 0 (.t 37), .none⟩,
    ⟨(some 41), .ext 1 (.t 37), .none⟩,
    ⟨(some 2), .mov (.t 40), .none⟩,
    ⟨(some 7), .mov (.t 41), .none⟩]
def Tryd.fn39_r12 : List DIns :=
   [⟨⟨(some 42), .mov (.t 2), .none⟩, [], [3, 4, 5], 0⟩,
    ⟨⟨(some 43), .mov (.t 7), .none⟩, [], [2, 5], 0⟩,
    ⟨⟨(some 44), .eqv false true .iface (.t 43) (.c .nili), .none⟩, [1], [5], 0⟩,
    ⟨⟨(some 2), .mov (.t 42), .none⟩, [0], [4, 5], 0⟩,
    ⟨⟨(some 3), .mov (.c (.bool true)), .none⟩, [3, 0], [5], 0⟩,
    ⟨⟨(some 4), .mov (.t 44), .none⟩, [2, 4, 0, 1, 3], [], 0⟩]
def Tryd.fn39_l0 : ACode :=
 (.seq (.seq (.reg Tryd.fn39_r6)
     (.trim [0, 5, 22, 23, 24]))
    (.seq (.cond (.t 24)
      .skip
      (.exit 0))
    (.seq (.block 1
      (.seq (.seq (.reg Tryd.fn39_r7)
       (.trim [0, 5, 6, 22, 23]))
      (.seq (.seq (.reg Tryd.fn39_r8)
       (.trim [0, 5, 22, 23, 35]))
      (.cond (.t 35)
       (.seq (.seq (.reg Tryd.fn39_r9)
        (.trim [2, 3, 4]))
       .ret)
       .skip))))
    (.seq (.reg Tryd.fn39_r10)
    (.trim [0, 5, 22, 23])))))
def Tryd.fn39 : AFun :=
 ⟨45, [.tmp 2, .tmp 3, .tmp 4],
 (.seq (.seq (.reg Tryd.fn39_r0)
  (.trim [0]))
 (.seq (.seq (.reg Tryd.fn39_r1)
  (.trim [0, 5]))
 (.seq (.seq (.seq (.seq (.reg Tryd.fn39_r2)
    (.trim [0, 5, 12, 19]))
   (.seq (.reg Tryd.fn39_r3)
   (.trim [0, 5, 20])))
  (.cond (.t 20)
   (.seq (.seq (.reg Tryd.fn39_r4)
    (.trim [2, 3, 4]))
   .ret)
   .skip))
 (.seq (.seq (.seq (.reg Tryd.fn39_r5)
   (.trim [0, 5, 22, 23]))
  (.block 0
   (.loop (some [0, 5, 22, 23])
    Tryd.fn39_l0)))
 (.seq (.seq (.reg Tryd.fn39_r11)
  (.trim [2, 7]))
 (.seq (.seq (.regd Tryd.fn39_r12)
  (.trim [2, 3, 4]))
 .ret)))))), true⟩
/-! signalbench/signalbenchref07.word -/
def Tryd.fn40_r0 : List AIns :=
   [⟨(some 2), .mov (.c (.str [])), .none⟩,
    ⟨(some 3), .mov (.c (.str [])), .none⟩,
    ⟨(some 4), .mov (.c (.bool false)), .none⟩]
def Tryd.fn40_r1 : List AIns :=
   [⟨(some 5), .mov (.c (.int .i64 0)), .none⟩]
def Tryd.fn40_r2 : List AIns :=
   [⟨(some 6), .mov (.t 5), .none⟩,
        ⟨(some 7), .mov (.t 0), .none⟩,
        ⟨(some 8), .lens (.t 7), .none⟩,
        ⟨(some 9), .bin .lss (.t 6) (.t 8), .none⟩]
def Tryd.fn40_r3 : List AIns :=
   [⟨(some 12), .mov (.t 0), .none⟩,
         ⟨(some 13), .mov (.t 5), .none⟩,
         ⟨(some 14), .ids (.t 12) (.t 13), .none⟩,
         ⟨(some 15), .bin .eql (.t 14) (.c (.int .u8 32)), .none⟩]
def Tryd.fn40_r4a : List DIns :=
   ⟨⟨(some 22), .sub (.t 19) (some (.t 21)) .none, .none⟩, [3, 5, 4], [8, 9], 0⟩ ::
   ⟨⟨(some 2), .mov (.t 18), .none⟩, [2, 0, 1], [8, 9], 0⟩ ::
   ⟨⟨(some 3), .mov (.t 22), .none⟩, [6, 7, 0, 1, 2, 3, 4, 5], [9], 0⟩ ::
   ⟨⟨(some 4), .mov (.c (.bool true)), .none⟩, [8, 0, 1, 2, 3, 4, 5, 6, 7], [], 0⟩ ::
   []
def Tryd.fn40_r4 : List DIns :=
   ⟨⟨(some 16), .mov (.t 0), .none⟩, [], [2, 7, 8, 9], 0⟩ ::
   ⟨⟨(some 17), .mov (.t 5), .none⟩, [], [2, 7, 8, 9], 0⟩ ::
   ⟨⟨(some 18), .sub (.t 16) .none (some (.t 17)), .none⟩, [0, 1], [7, 8, 9], 0⟩ ::
   ⟨⟨(some 19), .mov (.t 0), .none⟩, [], [6, 8, 9], 0⟩ ::
   ⟨⟨(some 20), .mov (.t 5), .none⟩, [], [5, 6, 8, 9], 0⟩ ::
   ⟨⟨(some 21), .bin .add (.t 20) (.c (.int .i64 1)), .none⟩, [4], [6, 8, 9], 0⟩ ::
   Tryd.fn40_r4a
def Tryd.fn40_r5 : List AIns :=
   [⟨(some 10), .mov (.t 5), .none⟩,
      ⟨(some 11), .bin .add (.t 10) (.c (.int .i64 1)), .none⟩,
      ⟨(some 5), .mov (.t 11), .none⟩]
def Tryd.fn40_r6 : List AIns :=
   [⟨(some 2), .mov (.c (.str [])), .none⟩,
    ⟨(some 3), .mov (.c (.str [])), .none⟩,
    ⟨(some 4), .mov (.c (.bool false)), .none⟩]
def Tryd.fn40_l0 : ACode :=
 (.seq (.seq (.seq (.reg Tryd.fn40_r2)
      (.trim [0, 5, 9]))
     (.cond (.t 9)
      .skip
      (.exit 0)))
    (.seq (.block 1
      (.seq (.seq (.reg Tryd.fn40_r3)
       (.trim [0, 5, 15]))
      (.cond (.t 15)
       (.seq (.seq (.regd Tryd.fn40_r4)
        (.trim [2, 3, 4]))
       .ret)
       .skip)))
    (.seq (.reg Tryd.fn40_r5)
    (.trim [0, 5]))))
def Tryd.fn40 : AFun :=
 ⟨23, [.tmp 2, .tmp 3, .tmp 4],
 (.seq (.seq (.reg Tryd.fn40_r0)
  (.trim [0]))
 (.seq (.seq (.seq (.reg Tryd.fn40_r1)
   (.trim [0, 5]))
  (.block 0
   (.loop (some [0, 5])
    Tryd.fn40_l0)))
 (.seq (.seq (.reg Tryd.fn40_r6)
  (.trim [2, 3, 4]))
 .ret))), true⟩
/-! signalbench/signalbenchref07.kind -/
def Tryd.fn41_r0 : List AIns :=
   [⟨(some 2), .mov (.c (.int .i64 0)), .none⟩]
def Tryd.fn41_r1 : List AIns :=
   [⟨(some 5), .call 33 [], .none⟩,
    ⟨(some 3), .mov (.t 5), .none⟩]
def Tryd.fn41_r2 : List AIns :=
   [⟨(some 4), .mov (.c (.int .i64 0)), .none⟩]
def Tryd.fn41_r3 : List AIns :=
   [⟨(some 6), .mov (.t 4), .none⟩,
        ⟨(some 7), .mov (.t 3), .none⟩,
        ⟨(some 8), .lenl (.t 7), .none⟩,
        ⟨(some 9), .bin .lss (.t 6) (.t 8), .none⟩]
def Tryd.fn41_r4 : List AIns :=
   [⟨(some 12), .mov (.t 3), .none⟩,
         ⟨(some 13), .mov (.t 4), .none⟩,
         ⟨(some 14), .ia 1 (.t 12) (.t 13), .none⟩,
         ⟨(some 15), .ld1 (.t 14), .none⟩,
         ⟨(some 16), .mov (.t 0), .none⟩,
         ⟨(some 17), .bin .eql (.t 15) (.t 16), .none⟩]
def Tryd.fn41_r5 : List AIns :=
   [⟨(some 18), .mov (.t 4), .none⟩,
          ⟨(some 19), .bin .add (.t 18) (.c (.int .i64 1)), .none⟩,
          ⟨(some 2), .mov (.t 19), .none⟩]
def Tryd.fn41_r6 : List AIns :=
   [⟨(some 10), .mov (.t 4), .none⟩,
      ⟨(some 11), .bin .add (.t 10) (.c (.int .i64 1)), .none⟩,
      ⟨(some 4), .mov (.t 11), .none⟩]
def Tryd.fn41_r7 : List AIns :=
   [⟨(some 2), .mov (.c (.int .i64 0)), .none⟩]
def Tryd.fn41_l0 : ACode :=
 (.seq (.seq (.seq (.reg Tryd.fn41_r3)
      (.trim [0, 3, 4, 9]))
     (.cond (.t 9)
      .skip
      (.exit 0)))
    (.seq (.block 1
      (.seq (.seq (.reg Tryd.fn41_r4)
       (.trim [0, 3, 4, 17]))
      (.cond (.t 17)
       (.seq (.seq (.reg Tryd.fn41_r5)
        (.trim [2]))
       .ret)
       .skip)))
    (.seq (.reg Tryd.fn41_r6)
    (.trim [0, 3, 4]))))
def Tryd.fn41 : AFun :=
 ⟨20, [.tmp 2],
 (.seq (.seq (.reg Tryd.fn41_r0)
  (.trim [0]))
 (.seq (.seq (.reg Tryd.fn41_r1)
  (.trim [0, 3]))
 (.seq (.seq (.seq (.reg Tryd.fn41_r2)
   (.trim [0, 3, 4]))
  (.block 0
   (.loop (some [0, 3, 4])
    Tryd.fn41_l0)))
 (.seq (.seq (.reg Tryd.fn41_r7)
  (.trim [2]))
 .ret)))), true⟩
/-! signalbench/signalbenchref07.number -/
def Tryd.fn42_r0 : List AIns :=
   [⟨(some 2), .mov (.c (.int .i64 0)), .none⟩,
    ⟨(some 3), .mov (.c (.bool false)), .none⟩]
def Tryd.fn42_r1 : List AIns :=
   [⟨(some 7), .mov (.t 0), .none⟩,
    ⟨(some 8), .bin .neq (.t 7) (.c (.str [])), .none⟩,
    ⟨(some 9), .mov (.t 8), .none⟩,
    ⟨(some 10), .mov (.t 0), (some (9, true))⟩,
    ⟨(some 11), .ids (.t 10) (.c (.int .i64 0)), (some (9, true))⟩,
    ⟨(some 12), .bin .eql (.t 11) (.c (.int .u8 45)), (some (9, true))⟩,
    ⟨(some 13), .pick (.t 9) (.t 12) (.c (.bool false)), .none⟩,
    ⟨(some 4), .mov (.t 13), .none⟩]
def Tryd.fn42_r2 : List AIns :=
   [⟨(some 14), .mov (.t 4), .none⟩]
def Tryd.fn42_r3 : List AIns :=
   [⟨(some 15), .mov (.t 0), .none⟩,
     ⟨(some 16), .sub (.t 15) (some (.c (.int .i64 1))) .none, .none⟩,
     ⟨(some 0), .mov (.t 16), .none⟩]
def Tryd.fn42_r4 : List AIns :=
   [⟨(some 17), .mov (.t 0), .none⟩,
      ⟨(some 18), .bin .eql (.t 17) (.c (.str [])), .none⟩,
      ⟨(some 19), .mov (.t 18), .none⟩,
      ⟨(some 20), .mov (.t 0), (some (19, false))⟩,
      ⟨(some 21), .ids (.t 20) (.c (.int .i64 0)), (some (19, false))⟩,
      ⟨(some 22), .bin .eql (.t 21) (.c (.int .u8 48)), (some (19, false))⟩,
      ⟨(some 23), .mov (.t 22), (some (19, false))⟩,
      ⟨(some 24), .mov (.t 0), (some (23, true))⟩,
      ⟨(some 25), .lens (.t 24), (some (23, true))⟩,
      ⟨(some 26), .bin .gtr (.t 25) (.c (.int .i64 1)), (some (23, true))⟩]
def Tryd.fn42_r5 : List AIns :=
   [⟨(some 27), .mov (.t 26), (some (23, true))⟩,
     ⟨(some 28), .mov (.t 4), (some (27, false))⟩,
     ⟨(some 29), .pick (.t 27) (.c (.bool true)) (.t 28), (some (23, true))⟩,
     ⟨(some 30), .pick (.t 23) (.t 29) (.c (.bool false)), (some (19, false))⟩,
     ⟨(some 31), .pick (.t 19) (.c (.bool true)) (.t 30), .none⟩]
def Tryd.fn42_r6 : List AIns :=
   [⟨(some 2), .mov (.c (.int .i64 0)), .none⟩,
      ⟨(some 3), .mov (.c (.bool false)), .none⟩]
def Tryd.fn42_r7 : List AIns :=
   [⟨(some 5), .mov (.c (.int .i64 0)), .none⟩]
def Tryd.fn42_r8 : List AIns :=
   [⟨(some 6), .mov (.c (.int .i64 0)), .none⟩]
def Tryd.fn42_r9 : List AIns :=
   [⟨(some 32), .mov (.t 6), .none⟩,
        ⟨(some 33), .mov (.t 0), .none⟩,
        ⟨(some 34), .lens (.t 33), .none⟩,
        ⟨(some 35), .bin .lss (.t 32) (.t 34), .none⟩]
def Tryd.fn42_r10 : List AIns :=
   [⟨(some 38), .mov (.t 0), .none⟩,
          ⟨(some 39), .mov (.t 6), .none⟩,
          ⟨(some 40), .ids (.t 38) (.t 39), .none⟩,
          ⟨(some 41), .bin .lss (.t 40) (.c (.int .u8 48)), .none⟩,
          ⟨(some 42), .mov (.t 41), .none⟩,
          ⟨(some 43), .mov (.t 0), (some (42, false))⟩,
          ⟨(some 44), .mov (.t 6), (some (42, false))⟩,
          ⟨(some 45), .ids (.t 43) (.t 44), (some (42, false))⟩,
          ⟨(some 46), .bin .gtr (.t 45) (.c (.int .u8 57)), (some (42, false))⟩,
          ⟨(some 47), .pick (.t 42) (.c (.bool true)) (.t 46), .none⟩]
def Tryd.fn42_r11 : List AIns :=
   [⟨(some 2), .mov (.c (.int .i64 0)), .none⟩,
           ⟨(some 3), .mov (.c (.bool false)), .none⟩]
def Tryd.fn42_r12 : List AIns :=
   [⟨(some 48), .mov (.t 5), .none⟩,
         ⟨(some 49), .bin .leq (.t 48) (.c (.int .i64 9007199254740992)), .none⟩]
def Tryd.fn42_r13 : List AIns :=
   [⟨(some 50), .mov (.t 5), .none⟩,
         ⟨(some 51), .bin .mul (.c (.int .i64 10)) (.t 50), .none⟩,
         ⟨(some 52), .mov (.t 0), .none⟩,
         ⟨(some 53), .mov (.t 6), .none⟩,
         ⟨(some 54), .ids (.t 52) (.t 53), .none⟩,
         ⟨(some 55), .bin .sub (.t 54) (.c (.int .u8 48)), .none⟩,
         ⟨(some 56), .conv .i64 (.t 55), .none⟩,
         ⟨(some 57), .bin .add (.t 51) (.t 56), .none⟩,
         ⟨(some 5), .mov (.t 57), .none⟩]
def Tryd.fn42_r14 : List AIns :=
   [⟨(some 36), .mov (.t 6), .none⟩,
      ⟨(some 37), .bin .add (.t 36) (.c (.int .i64 1)), .none⟩,
      ⟨(some 6), .mov (.t 37), .none⟩]
def Tryd.fn42_r15 : List AIns :=
   [⟨(some 58), .mov (.t 5), .none⟩,
     ⟨(some 59), .bin .gtr (.t 58) (.c (.int .i64 9007199254740992)), .none⟩]
def Tryd.fn42_r16 : List AIns :=
   [⟨(some 5), .mov (.c (.int .i64 9007199254740993)), .none⟩]
def Tryd.fn42_r17 : List AIns :=
   [⟨(some 60), .mov (.t 4), .none⟩]
def Tryd.fn42_r18 : List AIns :=
   [⟨(some 61), .mov (.t 5), .none⟩,
      ⟨(some 62), .un .neg (.t 61), .none⟩,
      ⟨(some 2), .mov (.t 62), .none⟩,
      ⟨(some 3), .mov (.c (.bool true)), .none⟩]
def Tryd.fn42_r19 : List AIns :=
   [⟨(some 63), .mov (.t 5), .none⟩,
    ⟨(some 2), .mov (.t 63), .none⟩,
    ⟨(some 3), .mov (.c (.bool true)), .none⟩]
def Tryd.fn42_l0 : ACode :=
 (.seq (.seq (.seq (.reg Tryd.fn42_r9)
      (.trim [0, 4, 5, 6, 35]))
     (.cond (.t 35)
      .skip
      (.exit 0)))
    (.seq (.block 1
      (.seq (.seq (.seq (.reg Tryd.fn42_r10)
        (.trim [0, 4, 5, 6, 47]))
       (.cond (.t 47)
        (.seq (.seq (.reg Tryd.fn42_r11)
         (.trim [2, 3]))
        .ret)
        .skip))
      (.seq (.seq (.reg Tryd.fn42_r12)
       (.trim [0, 4, 5, 6, 49]))
      (.cond (.t 49)
       (.seq (.reg Tryd.fn42_r13)
       (.trim [0, 4, 5, 6]))
       .skip))))
    (.seq (.reg Tryd.fn42_r14)
    (.trim [0, 4, 5, 6]))))
def Tryd.fn42 : AFun :=
 ⟨64, [.tmp 2, .tmp 3],
 (.seq (.seq (.reg Tryd.fn42_r0)
  (.trim [0]))
 (.seq (.seq (.reg Tryd.fn42_r1)
  (.trim [0, 4]))
 (.seq (.seq (.seq (.reg Tryd.fn42_r2)
   (.trim [0, 4, 14]))
  (.cond (.t 14)
   (.seq (.reg Tryd.fn42_r3)
   (.trim [0, 4]))
   .skip))
 (.seq (.seq (.seq (.seq (.reg Tryd.fn42_r4)
    (.trim [0, 4, 19, 23, 26]))
   (.seq (.reg Tryd.fn42_r5)
   (.trim [0, 4, 31])))
  (.cond (.t 31)
   (.seq (.seq (.reg Tryd.fn42_r6)
    (.trim [2, 3]))
   .ret)
   .skip))
 (.seq (.seq (.reg Tryd.fn42_r7)
  (.trim [0, 4, 5]))
 (.seq (.seq (.seq (.reg Tryd.fn42_r8)
   (.trim [0, 4, 5, 6]))
  (.block 0
   (.loop (some [0, 4, 5, 6])
    Tryd.fn42_l0)))
 (.seq (.seq (.seq (.reg Tryd.fn42_r15)
   (.trim [4, 5, 59]))
  (.cond (.t 59)
   (.seq (.reg Tryd.fn42_r16)
   (.trim [4, 5]))
   .skip))
 (.seq (.seq (.seq (.reg Tryd.fn42_r17)
   (.trim [5, 60]))
  (.cond (.t 60)
   (.seq (.seq (.reg Tryd.fn42_r18)
    (.trim [2, 3]))
   .ret)
   .skip))
 (.seq (.seq (.reg Tryd.fn42_r19)
  (.trim [2, 3]))
 .ret))))))))), true⟩
/-! signalbench/signalbenchref05.Unquote -/
def Tryd.fn43_r0 : List AIns :=
   [⟨(some 2), .mov (.c (.str [])), .none⟩,
    ⟨(some 3), .mov (.c (.int .i64 0)), .none⟩]
def Tryd.fn43_r1 : List AIns :=
   [⟨(some 8), .mov (.t 0), .none⟩,
    ⟨(some 9), .call 58 [(.t 8), (.c (.int .i64 0))], .none⟩,
    ⟨(some 7), .mov (.t 9), .none⟩,
    ⟨(some 10), .ext 0 (.t 7), .none⟩,
    ⟨(some 11), .ext 1 (.t 7), .none⟩,
    ⟨(some 12), .ext 2 (.t 7), .none⟩,
    ⟨(some 4), .mov (.t 10), .none⟩,
    ⟨(some 5), .mov (.t 11), .none⟩,
    ⟨(some 6), .mov (.t 12), .none⟩]
def Tryd.fn43_r2 : List AIns :=
   [⟨(some 13), .mov (.t 6), .none⟩,
     ⟨(some 14), .un .not (.t 13), .none⟩,
     ⟨(some 15), .mov (.t 14), .none⟩,
     ⟨(some 16), .mov (.t 5), (some (15, false))⟩,
     ⟨(some 17), .mov (.t 0), (some (15, false))⟩,
     ⟨(some 18), .lens (.t 17), (some (15, false))⟩,
     ⟨(some 19), .bin .neq (.t 16) (.t 18), (some (15, false))⟩,
     ⟨(some 20), .pick (.t 15) (.c (.bool true)) (.t 19), .none⟩]
def Tryd.fn43_r3 : List AIns :=
   [⟨(some 2), .mov (.c (.str [])), .none⟩,
      ⟨(some 3), .mov (.c (.int .i64 4)), .none⟩]
def Tryd.fn43_r4 : List AIns :=
   [⟨(some 21), .mov (.t 4), .none⟩,
    ⟨(some 2), .mov (.t 21), .none⟩,
    ⟨(some 3), .mov (.c (.int .i64 0)), .none⟩]
def Tryd.fn43 : AFun :=
 ⟨22, [.tmp 2, .tmp 3],
 (.seq (.seq (.reg Tryd.fn43_r0)
  (.trim [0]))
 (.seq (.seq (.reg Tryd.fn43_r1)
  (.trim [0, 4, 5, 6]))
 (.seq (.seq (.seq (.reg Tryd.fn43_r2)
   (.trim [4, 20]))
  (.cond (.t 20)
   (.seq (.seq (.reg Tryd.fn43_r3)
    (.trim [2, 3]))
   .ret)
   .skip))
 (.seq (.seq (.reg Tryd.fn43_r4)
  (.trim [2, 3]))
 .ret)))), true⟩
/-! cmp.Or[int] -/
def Tryd.fn44_r0 : List AIns :=
   [⟨(some 2), .mov (.c (.int .i64 0)), .none⟩]
def Tryd.fn44_r1 : List AIns :=
   [⟨(some 3), .mov (.c (.int .i64 0)), .none⟩]
def Tryd.fn44_r2 : List AIns :=
   [⟨(some 6), .mov (.t 0), .none⟩,
     ⟨(some 7), .lenl (.t 6), .none⟩,
     ⟨(some 8), .mov (.c (.int .i64 0)), .none⟩]
def Tryd.fn44_r3 : List AIns :=
   [⟨(some 9), .bin .lss (.t 8) (.t 7), .none⟩]
def Tryd.fn44_r4 : List AIns :=
   [⟨(some 10), .ia 1 (.t 6) (.t 8), .none⟩,
         ⟨(some 11), .ld1 (.t 10), .none⟩,
         ⟨(some 5), .mov (.t 11), .none⟩]
def Tryd.fn44_r5 : List AIns :=
   [⟨(some 12), .mov (.t 5), .none⟩,
         ⟨(some 13), .mov (.t 3), .none⟩,
         ⟨(some 14), .bin .neq (.t 12) (.t 13), .none⟩]
def Tryd.fn44_r6 : List AIns :=
   [⟨(some 15), .mov (.t 5), .none⟩,
          ⟨(some 2), .mov (.t 15), .none⟩]
def Tryd.fn44_r7 : List AIns :=
   [⟨(some 16), .bin .add (.t 8) (.c (.int .i64 1)), .none⟩,
      ⟨(some 8), .mov (.t 16), .none⟩]
def Tryd.fn44_r8 : List AIns :=
   [⟨(some 17), .mov (.t 3), .none⟩,
    ⟨(some 2), .mov (.t 17), .none⟩]
def Tryd.fn44_l0 : ACode :=
 (.seq (.seq (.reg Tryd.fn44_r3)
     (.trim [3, 6, 7, 8, 9]))
    (.seq (.cond (.t 9)
      .skip
      (.exit 0))
    (.seq (.block 1
      (.seq (.seq (.reg Tryd.fn44_r4)
       (.trim [3, 5, 6, 7, 8]))
      (.seq (.seq (.reg Tryd.fn44_r5)
       (.trim [3, 5, 6, 7, 8, 14]))
      (.cond (.t 14)
       (.seq (.seq (.reg Tryd.fn44_r6)
        (.trim [2]))
       .ret)
       .skip))))
    (.seq (.reg Tryd.fn44_r7)
    (.trim [3, 6, 7, 8])))))
def Tryd.fn44 : AFun :=
 ⟨18, [.tmp 2],
 (.seq (.seq (.reg Tryd.fn44_r0)
  (.trim [0]))
 (.seq (.seq (.reg Tryd.fn44_r1)
  (.trim [0, 3]))
 (.seq (.seq (.seq (.reg Tryd.fn44_r2)
   (.trim [3, 6, 7, 8]))
  (.block 0
   (.loop (some [3, 6, 7, 8])
    Tryd.fn44_l0)))
 (.seq (.seq (.reg Tryd.fn44_r8)
  (.trim [2]))
 .ret)))), true⟩
/-! cmp.Compare[int] -/
def Tryd.fn45_r0 : List AIns :=
   [⟨(some 4), .mov (.c (.int .i64 0)), .none⟩]
def Tryd.fn45_r1 : List AIns :=
   [⟨(some 7), .mov (.t 0), .none⟩,
    ⟨(some 8), .call 59 [(.t 7)], .none⟩,
    ⟨(some 5), .mov (.t 8), .none⟩]
def Tryd.fn45_r2 : List AIns :=
   [⟨(some 9), .mov (.t 1), .none⟩,
    ⟨(some 10), .call 59 [(.t 9)], .none⟩,
    ⟨(some 6), .mov (.t 10), .none⟩]
def Tryd.fn45_r3 : List AIns :=
   [⟨(some 11), .mov (.t 5), .none⟩]
def Tryd.fn45_r4 : List AIns :=
   [⟨(some 12), .mov (.t 6), .none⟩]
def Tryd.fn45_r5 : List AIns :=
   [⟨(some 4), .mov (.c (.int .i64 0)), .none⟩]
def Tryd.fn45_r6 : List AIns :=
   [⟨(some 4), .mov (.c (.int .i64 (-1))), .none⟩]
def Tryd.fn45_r7 : List AIns :=
   [⟨(some 13), .mov (.t 6), .none⟩]
def Tryd.fn45_r8 : List AIns :=
   [⟨(some 4), .mov (.c (.int .i64 1)), .none⟩]
def Tryd.fn45_r9 : List AIns :=
   [⟨(some 14), .mov (.t 0), .none⟩,
     ⟨(some 15), .mov (.t 1), .none⟩,
     ⟨(some 16), .bin .lss (.t 14) (.t 15), .none⟩]
def Tryd.fn45_r10 : List AIns :=
   [⟨(some 4), .mov (.c (.int .i64 (-1))), .none⟩]
def Tryd.fn45_r11 : List AIns :=
   [⟨(some 17), .mov (.t 0), .none⟩,
     ⟨(some 18), .mov (.t 1), .none⟩,
     ⟨(some 19), .bin .gtr (.t 17) (.t 18), .none⟩]
def Tryd.fn45_r12 : List AIns :=
   [⟨(some 4), .mov (.c (.int .i64 1)), .none⟩]
def Tryd.fn45_r13 : List AIns :=
   [⟨(some 4), .mov (.c (.int .i64 0)), .none⟩]
def Tryd.fn45 : AFun :=
 ⟨20, [.tmp 4],
 (.seq (.seq (.reg Tryd.fn45_r0)
  (.trim [0, 1]))
 (.seq (.seq (.reg Tryd.fn45_r1)
  (.trim [0, 1, 5]))
 (.seq (.seq (.reg Tryd.fn45_r2)
  (.trim [0, 1, 5, 6]))
 (.seq (.seq (.seq (.reg Tryd.fn45_r3)
   (.trim [0, 1, 6, 11]))
  (.cond (.t 11)
   (.seq (.seq (.seq (.reg Tryd.fn45_r4)
     (.trim [12]))
    (.cond (.t 12)
     (.seq (.seq (.reg Tryd.fn45_r5)
      (.trim [4]))
     .ret)
     .skip))
   (.seq (.seq (.reg Tryd.fn45_r6)
    (.trim [4]))
   .ret))
   .skip))
 (.seq (.seq (.seq (.reg Tryd.fn45_r7)
   (.trim [0, 1, 13]))
  (.cond (.t 13)
   (.seq (.seq (.reg Tryd.fn45_r8)
    (.trim [4]))
   .ret)
   .skip))
 (.seq (.seq (.seq (.reg Tryd.fn45_r9)
   (.trim [0, 1, 16]))
  (.cond (.t 16)
   (.seq (.seq (.reg Tryd.fn45_r10)
    (.trim [4]))
   .ret)
   .skip))
 (.seq (.seq (.seq (.reg Tryd.fn45_r11)
   (.trim [19]))
  (.cond (.t 19)
   (.seq (.seq (.reg Tryd.fn45_r12)
    (.trim [4]))
   .ret)
   .skip))
 (.seq (.seq (.reg Tryd.fn45_r13)
  (.trim [4]))
 .ret)))))))), true⟩
/-! (*strings.Builder).WriteString -/
def Tryd.fn49_r0 : List AIns :=
   [⟨(some 4), .mov (.c (.int .i64 0)), .none⟩,
    ⟨(some 5), .mov (.c .nili), .none⟩]
def Tryd.fn49_r1 : List AIns :=
   [⟨(some 6), .mov (.t 0), .none⟩,
    ⟨(some 7), .call 62 [(.t 6)], .none⟩]
def Tryd.fn49_r2 : List AIns :=
   [⟨(some 8), .mov (.t 0), .none⟩,
    ⟨(some 9), .mov (.t 0), .none⟩,
    ⟨(some 10), .nlc (.t 9), .none⟩,
    ⟨(some 11), .fa 1 (.t 10), .none⟩,
    ⟨(some 12), .ld1 (.t 11), .none⟩,
    ⟨(some 13), .mov (.t 1), .none⟩,
    ⟨(some 14), .app 5 1 1 (.t 12) (.t 13), .none⟩,
    ⟨(some 15), .nlc (.t 8), .none⟩,
    ⟨(some 16), .fa 1 (.t 15), .none⟩,
    ⟨.none, .st 1 (.t 16) (.t 14), .none⟩]
def Tryd.fn49_r3 : List AIns :=
   [⟨(some 17), .mov (.t 1), .none⟩,
    ⟨(some 18), .lens (.t 17), .none⟩,
    ⟨(some 4), .mov (.t 18), .none⟩,
    ⟨(some 5), .mov (.c .nili), .none⟩]
def Tryd.fn49 : AFun :=
 ⟨19, [.tmp 4, .tmp 5],
 (.seq (.seq (.reg Tryd.fn49_r0)
  (.trim [0, 1]))
 (.seq (.seq (.reg Tryd.fn49_r1)
  (.trim [0, 1]))
 (.seq (.seq (.reg Tryd.fn49_r2)
  (.trim [1]))
 (.seq (.seq (.reg Tryd.fn49_r3)
  (.trim [4, 5]))
 .ret)))), false⟩
/-! (*strings.Builder).String -/
def Tryd.fn50_r0 : List AIns :=
   [⟨(some 2), .mov (.c (.str [])), .none⟩]
def Tryd.fn50_r1a : List DIns :=
   ⟨⟨(some 9), .nlc (.t 8), .none⟩, [5], [7, 8, 9, 10, 11], 0⟩ ::
   ⟨⟨(some 10), .fa 1 (.t 9), .none⟩, [6, 5], [8, 9, 10, 11], 0⟩ ::
   ⟨⟨(some 11), .ld1 (.t 10), .none⟩, [7, 6, 5], [9, 10, 11], 1⟩ ::
   ⟨⟨(some 12), .lenl (.t 11), .none⟩, [8, 7, 6, 5], [10, 11], 0⟩ ::
   ⟨⟨(some 13), .ustr 5 (.t 7) (.t 12), .none⟩, [4, 9, 3, 2, 1, 0, 8, 7, 6, 5], [11], 2⟩ ::
   ⟨⟨(some 2), .mov (.t 13), .none⟩, [10, 0, 1, 2, 3, 4, 5, 6, 7, 8, 9], [], 0⟩ ::
   []
def Tryd.fn50_r1 : List DIns :=
   ⟨⟨(some 3), .mov (.t 0), .none⟩, [], [1, 2, 3, 4, 10, 11], 0⟩ ::
   ⟨⟨(some 4), .nlc (.t 3), .none⟩, [0], [2, 3, 4, 10, 11], 0⟩ ::
   ⟨⟨(some 5), .fa 1 (.t 4), .none⟩, [1, 0], [3, 4, 10, 11], 0⟩ ::
   ⟨⟨(some 6), .ld1 (.t 5), .none⟩, [2, 1, 0], [4, 10, 11], 1⟩ ::
   ⟨⟨(some 7), .usd (.t 6), .none⟩, [3, 2, 1, 0], [10, 11], 0⟩ ::
   ⟨⟨(some 8), .mov (.t 0), .none⟩, [], [6, 7, 8, 9, 10, 11], 0⟩ ::
   Tryd.fn50_r1a
def Tryd.fn50 : AFun :=
 ⟨14, [.tmp 2],
 (.seq (.seq (.reg Tryd.fn50_r0)
  (.trim [0]))
 (.seq (.seq (.regd Tryd.fn50_r1)
  (.trim [2]))
 .ret)), false⟩
/-! (*strings.Builder).WriteByte -/
def Tryd.fn51_r0 : List AIns :=
   [⟨(some 4), .mov (.c .nili), .none⟩]
def Tryd.fn51_r1 : List AIns :=
   [⟨(some 5), .mov (.t 0), .none⟩,
    ⟨(some 6), .call 62 [(.t 5)], .none⟩]
def Tryd.fn51_r2 : List AIns :=
   [⟨(some 7), .mov (.t 0), .none⟩,
     ⟨(some 8), .mov (.t 0), .none⟩,
     ⟨(some 9), .nlc (.t 8), .none⟩,
     ⟨(some 10), .fa 1 (.t 9), .none⟩,
     ⟨(some 11), .ld1 (.t 10), .none⟩,
     ⟨(some 12), .mov (.t 1), .none⟩,
     ⟨(some 13), .bsl 5 1 1 [(.int .u8 0)] [(0, 1, (.t 12))], .none⟩,
     ⟨(some 14), .app 5 1 1 (.t 11) (.t 13), .none⟩,
     ⟨(some 15), .nlc (.t 7), .none⟩,
     ⟨(some 16), .fa 1 (.t 15), .none⟩]
def Tryd.fn51_r3 : List AIns :=
   [⟨.none, .st 1 (.t 16) (.t 14), .none⟩]
def Tryd.fn51_r4 : List AIns :=
   [⟨(some 4), .mov (.c .nili), .none⟩]
def Tryd.fn51 : AFun :=
 ⟨17, [.tmp 4],
 (.seq (.seq (.reg Tryd.fn51_r0)
  (.trim [0, 1]))
 (.seq (.seq (.reg Tryd.fn51_r1)
  (.trim [0, 1]))
 (.seq (.seq (.seq (.reg Tryd.fn51_r2)
   (.trim [14, 16]))
  (.seq (.reg Tryd.fn51_r3)
  (.trim [])))
 (.seq (.seq (.reg Tryd.fn51_r4)
  (.trim [4]))
 .ret)))), false⟩
/-! signalbench/lex.plain -/
def Tryd.fn52_r0 : List AIns :=
   [⟨(some 2), .mov (.c (.bool false)), .none⟩]
def Tryd.fn52_r1 : List AIns :=
   [⟨(some 3), .mov (.t 0), .none⟩,
     ⟨(some 4), .bin .leq (.c (.int .i32 32)) (.t 3), .none⟩,
     ⟨(some 5), .mov (.t 4), .none⟩,
     ⟨(some 6), .mov (.t 0), (some (5, true))⟩,
     ⟨(some 7), .bin .leq (.t 6) (.c (.int .i32 126)), (some (5, true))⟩,
     ⟨(some 8), .pick (.t 5) (.t 7) (.c (.bool false)), .none⟩,
     ⟨(some 9), .mov (.t 8), .none⟩,
     ⟨(some 10), .mov (.t 0), (some (9, true))⟩,
     ⟨(some 11), .bin .neq (.t 10) (.c (.int .i32 34)), (some (9, true))⟩,
     ⟨(some 12), .pick (.t 9) (.t 11) (.c (.bool false)), .none⟩]
def Tryd.fn52_r2 : List AIns :=
   [⟨(some 13), .mov (.t 12), .none⟩,
    ⟨(some 14), .mov (.t 0), (some (13, true))⟩,
    ⟨(some 15), .bin .neq (.t 14) (.c (.int .i32 92)), (some (13, true))⟩,
    ⟨(some 16), .pick (.t 13) (.t 15) (.c (.bool false)), .none⟩,
    ⟨(some 2), .mov (.t 16), .none⟩]
def Tryd.fn52 : AFun :=
 ⟨17, [.tmp 2],
 (.seq (.seq (.reg Tryd.fn52_r0)
  (.trim [0]))
 (.seq (.seq (.seq (.reg Tryd.fn52_r1)
   (.trim [0, 12]))
  (.seq (.reg Tryd.fn52_r2)
  (.trim [2])))
 .ret)), true⟩
/-! signalbench/signalbenchref07.digits -/
def Tryd.fn53_r0 : List AIns :=
   [⟨(some 2), .mov (.c (.str [])), .none⟩]
def Tryd.fn53_r1 : List AIns :=
   [⟨(some 3), .mov (.t 0), .none⟩,
     ⟨(some 4), .bin .lss (.t 3) (.c (.int .i64 10)), .none⟩]
def Tryd.fn53_r2 : List AIns :=
   [⟨(some 5), .mov (.t 0), .none⟩,
      ⟨(some 6), .mov (.t 0), .none⟩,
      ⟨(some 7), .bin .add (.t 6) (.c (.int .i64 1)), .none⟩,
      ⟨(some 8), .sub (.c (.str [48, 49, 50, 51, 52, 53, 54, 55, 56, 57])) (some (.t 5)) (some (.t 7)), .none⟩,
      ⟨(some 2), .mov (.t 8), .none⟩]
def Tryd.fn53_r3a : List DIns :=
   ⟨⟨(some 15), .bin .rem (.t 14) (.c (.int .i64 10)), .none⟩, [5], [7, 8, 9, 10], 0⟩ ::
   ⟨⟨(some 16), .bin .add (.t 15) (.c (.int .i64 1)), .none⟩, [6, 5], [8, 9, 10], 0⟩ ::
   ⟨⟨(some 17), .sub (.c (.str [48, 49, 50, 51, 52, 53, 54, 55, 56, 57])) (some (.t 13)) (some (.t 16)), .none⟩, [4, 7, 3, 6, 5], [9, 10], 0⟩ ::
   ⟨⟨(some 18), .bin .add (.t 11) (.t 17), .none⟩, [2, 8, 1, 0, 4, 7, 3, 6, 5], [10], 0⟩ ::
   ⟨⟨(some 2), .mov (.t 18), .none⟩, [9, 2, 0, 1, 3, 4, 5, 6, 7, 8], [], 0⟩ ::
   []
def Tryd.fn53_r3 : List DIns :=
   ⟨⟨(some 9), .mov (.t 0), .none⟩, [], [1, 2, 9, 10], 0⟩ ::
   ⟨⟨(some 10), .bin .quo (.t 9) (.c (.int .i64 10)), .none⟩, [0], [2, 9, 10], 0⟩ ::
   ⟨⟨(some 11), .call 53 [(.t 10)], .none⟩, [1, 0], [9, 10], 2⟩ ::
   ⟨⟨(some 12), .mov (.t 0), .none⟩, [], [4, 8, 9, 10], 0⟩ ::
   ⟨⟨(some 13), .bin .rem (.t 12) (.c (.int .i64 10)), .none⟩, [3], [8, 9, 10], 0⟩ ::
   ⟨⟨(some 14), .mov (.t 0), .none⟩, [], [6, 7, 8, 9, 10], 0⟩ ::
   Tryd.fn53_r3a
def Tryd.fn53 : AFun :=
 ⟨19, [.tmp 2],
 (.seq (.seq (.reg Tryd.fn53_r0)
  (.trim [0]))
 (.seq (.seq (.seq (.reg Tryd.fn53_r1)
   (.trim [0, 4]))
  (.cond (.t 4)
   (.seq (.seq (.reg Tryd.fn53_r2)
    (.trim [2]))
   .ret)
   .skip))
 (.seq (.seq (.regd Tryd.fn53_r3)
  (.trim [2]))
 .ret))), true⟩
/-! signalbench/lex.escape -/
def Tryd.fn55_r0 : List AIns :=
   [⟨(some 2), .mov (.c (.int .u8 0)), .none⟩,
    ⟨(some 3), .mov (.c (.int .i64 0)), .none⟩]
def Tryd.fn55_r1 : List AIns :=
   [⟨(some 4), .mov (.t 0), .none⟩,
     ⟨(some 5), .lens (.t 4), .none⟩,
     ⟨(some 6), .bin .lss (.t 5) (.c (.int .i64 2)), .none⟩]
def Tryd.fn55_r2 : List AIns :=
   [⟨(some 2), .mov (.c (.int .u8 0)), .none⟩,
      ⟨(some 3), .mov (.c (.int .i64 0)), .none⟩]
def Tryd.fn55_r3 : List AIns :=
   [⟨(some 7), .mov (.t 0), .none⟩,
     ⟨(some 8), .ids (.t 7) (.c (.int .i64 1)), .none⟩]
def Tryd.fn55_r4 : List AIns :=
   [⟨(some 10), .bin .eql (.t 8) (.c (.int .u8 34)), .none⟩,
       ⟨(some 9), .mov (.t 10), .none⟩]
def Tryd.fn55_r5 : List AIns :=
   [⟨(some 11), .bin .eql (.t 8) (.c (.int .u8 92)), .none⟩,
       ⟨(some 9), .mov (.t 11), .none⟩]
def Tryd.fn55_r6 : List AIns :=
   [⟨(some 12), .mov (.t 0), .none⟩,
       ⟨(some 13), .ids (.t 12) (.c (.int .i64 1)), .none⟩,
       ⟨(some 2), .mov (.t 13), .none⟩,
       ⟨(some 3), .mov (.c (.int .i64 2)), .none⟩]
def Tryd.fn55_r7 : List AIns :=
   [⟨(some 15), .bin .eql (.t 8) (.c (.int .u8 110)), .none⟩,
       ⟨(some 14), .mov (.t 15), .none⟩]
def Tryd.fn55_r8 : List AIns :=
   [⟨(some 2), .mov (.c (.int .u8 10)), .none⟩,
        ⟨(some 3), .mov (.c (.int .i64 2)), .none⟩]
def Tryd.fn55_r9 : List AIns :=
   [⟨(some 17), .bin .eql (.t 8) (.c (.int .u8 120)), .none⟩,
        ⟨(some 16), .mov (.t 17), .none⟩]
def Tryd.fn55_r10 : List AIns :=
   [⟨(some 18), .mov (.t 0), .none⟩,
           ⟨(some 19), .lens (.t 18), .none⟩,
           ⟨(some 20), .bin .lss (.t 19) (.c (.int .i64 4)), .none⟩,
           ⟨(some 21), .mov (.t 20), .none⟩,
           ⟨(some 22), .mov (.t 0), (some (21, false))⟩,
           ⟨(some 23), .ids (.t 22) (.c (.int .i64 2)), (some (21, false))⟩,
           ⟨(some 24), .call 67 [(.t 23)], (some (21, false))⟩,
           ⟨(some 25), .bin .lss (.t 24) (.c (.int .i64 0)), (some (21, false))⟩,
           ⟨(some 26), .pick (.t 21) (.c (.bool true)) (.t 25), .none⟩,
           ⟨(some 27), .mov (.t 26), .none⟩]
def Tryd.fn55_r11 : List AIns :=
   [⟨(some 28), .mov (.t 0), (some (27, false))⟩,
          ⟨(some 29), .ids (.t 28) (.c (.int .i64 3)), (some (27, false))⟩,
          ⟨(some 30), .call 67 [(.t 29)], (some (27, false))⟩,
          ⟨(some 31), .bin .lss (.t 30) (.c (.int .i64 0)), (some (27, false))⟩,
          ⟨(some 32), .pick (.t 27) (.c (.bool true)) (.t 31), .none⟩]
def Tryd.fn55_r12 : List AIns :=
   [⟨(some 2), .mov (.c (.int .u8 0)), .none⟩,
           ⟨(some 3), .mov (.c (.int .i64 0)), .none⟩]
def Tryd.fn55_r13a : List DIns :=
   ⟨⟨(some 39), .call 67 [(.t 38)], .none⟩, [5, 2, 4, 1, 0], [7, 8, 9, 10], 2⟩ ::
   ⟨⟨(some 40), .bin .add (.t 36) (.t 39), .none⟩, [3, 6, 2, 1, 0, 5, 4], [8, 9, 10], 0⟩ ::
   ⟨⟨(some 41), .conv .u8 (.t 40), .none⟩, [7, 3, 6, 2, 1, 0, 5, 4], [9, 10], 0⟩ ::
   ⟨⟨(some 2), .mov (.t 41), .none⟩, [8, 6, 0, 1, 2, 3, 4, 5, 7], [10], 0⟩ ::
   ⟨⟨(some 3), .mov (.c (.int .i64 4)), .none⟩, [9, 0, 1, 2, 3, 4, 5, 6, 7, 8], [], 0⟩ ::
   []
def Tryd.fn55_r13 : List DIns :=
   ⟨⟨(some 33), .mov (.t 0), .none⟩, [], [1, 2, 3, 6, 7, 8, 9, 10], 0⟩ ::
   ⟨⟨(some 34), .ids (.t 33) (.c (.int .i64 2)), .none⟩, [0], [2, 3, 6, 7, 8, 9, 10], 0⟩ ::
   ⟨⟨(some 35), .call 67 [(.t 34)], .none⟩, [1, 0], [3, 6, 7, 8, 9, 10], 2⟩ ::
   ⟨⟨(some 36), .bin .mul (.c (.int .i64 16)) (.t 35), .none⟩, [2, 1, 0], [7, 8, 9, 10], 0⟩ ::
   ⟨⟨(some 37), .mov (.t 0), .none⟩, [], [5, 6, 7, 8, 9, 10], 0⟩ ::
   ⟨⟨(some 38), .ids (.t 37) (.c (.int .i64 3)), .none⟩, [4], [6, 7, 8, 9, 10], 0⟩ ::
   Tryd.fn55_r13a
def Tryd.fn55_r14 : List AIns :=
   [⟨(some 2), .mov (.c (.int .u8 0)), .none⟩,
    ⟨(some 3), .mov (.c (.int .i64 0)), .none⟩]
def Tryd.fn55 : AFun :=
 ⟨42, [.tmp 2, .tmp 3],
 (.seq (.seq (.reg Tryd.fn55_r0)
  (.trim [0]))
 (.seq (.seq (.seq (.reg Tryd.fn55_r1)
   (.trim [0, 6]))
  (.cond (.t 6)
   (.seq (.seq (.reg Tryd.fn55_r2)
    (.trim [2, 3]))
   .ret)
   .skip))
 (.seq (.seq (.seq (.reg Tryd.fn55_r3)
   (.trim [0, 8]))
  (.block 0
   (.seq (.seq (.seq (.reg Tryd.fn55_r4)
     (.trim [0, 8, 9]))
    (.cond (.t 9)
     .skip
     (.seq (.reg Tryd.fn55_r5)
     (.trim [0, 8, 9]))))
   (.cond (.t 9)
    (.seq (.seq (.reg Tryd.fn55_r6)
     (.trim [2, 3]))
    .ret)
    (.seq (.seq (.reg Tryd.fn55_r7)
     (.trim [0, 8, 14]))
    (.cond (.t 14)
     (.seq (.seq (.reg Tryd.fn55_r8)
      (.trim [2, 3]))
     .ret)
     (.seq (.seq (.reg Tryd.fn55_r9)
      (.trim [0, 16]))
     (.cond (.t 16)
      (.seq (.seq (.seq (.seq (.reg Tryd.fn55_r10)
         (.trim [0, 27]))
        (.seq (.reg Tryd.fn55_r11)
        (.trim [0, 32])))
       (.cond (.t 32)
        (.seq (.seq (.reg Tryd.fn55_r12)
         (.trim [2, 3]))
        .ret)
        .skip))
      (.seq (.seq (.regd Tryd.fn55_r13)
       (.trim [2, 3]))
      .ret))
      .skip))))))))
 (.seq (.seq (.reg Tryd.fn55_r14)
  (.trim [2, 3]))
 .ret)))), true⟩
/-! strings.TrimPrefix -/
def Tryd.fn56_r0 : List AIns :=
   [⟨(some 4), .mov (.c (.str [])), .none⟩]
def Tryd.fn56_r1 : List AIns :=
   [⟨(some 5), .mov (.t 0), .none⟩,
    ⟨(some 6), .mov (.t 1), .none⟩,
    ⟨(some 7), .call 68 [(.t 5), (.t 6)], .none⟩,
    ⟨(some 4), .mov (.t 7), .none⟩]
def Tryd.fn56 : AFun :=
 ⟨8, [.tmp 4],
 (.seq (.seq (.reg Tryd.fn56_r0)
  (.trim [0, 1]))
 (.seq (.seq (.reg Tryd.fn56_r1)
  (.trim [4]))
 .ret)), true⟩
/-! signalbench/signalbenchref05.quoted -/
def Tryd.fn58_r0 : List AIns :=
   [⟨(some 4), .mov (.c (.str [])), .none⟩,
    ⟨(some 5), .mov (.c (.int .i64 0)), .none⟩,
    ⟨(some 6), .mov (.c (.bool false)), .none⟩]
def Tryd.fn58_r1 : List AIns :=
   [⟨(some 11), .mov (.t 1), .none⟩,
     ⟨(some 12), .mov (.t 0), .none⟩,
     ⟨(some 13), .lens (.t 12), .none⟩,
     ⟨(some 14), .bin .geq (.t 11) (.t 13), .none⟩,
     ⟨(some 15), .mov (.t 14), .none⟩,
     ⟨(some 16), .mov (.t 0), (some (15, false))⟩,
     ⟨(some 17), .mov (.t 1), (some (15, false))⟩,
     ⟨(some 18), .ids (.t 16) (.t 17), (some (15, false))⟩,
     ⟨(some 19), .bin .neq (.t 18) (.c (.int .u8 34)), (some (15, false))⟩,
     ⟨(some 20), .pick (.t 15) (.c (.bool true)) (.t 19), .none⟩]
def Tryd.fn58_r2 : List AIns :=
   [⟨(some 4), .mov (.c (.str [])), .none⟩,
      ⟨(some 5), .mov (.c (.int .i64 0)), .none⟩,
      ⟨(some 6), .mov (.c (.bool false)), .none⟩]
def Tryd.fn58_r3 : List AIns :=
   [⟨(some 21), .bsl 5 1 0 [(.int .u8 0)] [], .none⟩,
    ⟨(some 7), .mov (.t 21), .none⟩]
def Tryd.fn58_r4 : List AIns :=
   [⟨(some 22), .mov (.t 1), .none⟩,
    ⟨(some 23), .bin .add (.t 22) (.c (.int .i64 1)), .none⟩,
    ⟨(some 8), .mov (.t 23), .none⟩]
def Tryd.fn58_r5 : List AIns :=
   [⟨(some 24), .mov (.t 8), .none⟩,
        ⟨(some 25), .mov (.t 0), .none⟩,
        ⟨(some 26), .lens (.t 25), .none⟩,
        ⟨(some 27), .bin .lss (.t 24) (.t 26), .none⟩]
def Tryd.fn58_r6 : List AIns :=
   [⟨(some 28), .mov (.t 0), .none⟩,
        ⟨(some 29), .mov (.t 8), .none⟩,
        ⟨(some 30), .ids (.t 28) (.t 29), .none⟩,
        ⟨(some 9), .mov (.t 30), .none⟩]
def Tryd.fn58_r7 : List AIns :=
   [⟨(some 31), .mov (.t 9), .none⟩,
         ⟨(some 32), .bin .eql (.t 31) (.c (.int .u8 34)), .none⟩]
def Tryd.fn58_r8 : List AIns :=
   [⟨(some 33), .mov (.t 7), .none⟩,
          ⟨(some 34), .b2s (.t 33), .none⟩,
          ⟨(some 35), .mov (.t 8), .none⟩,
          ⟨(some 36), .bin .add (.t 35) (.c (.int .i64 1)), .none⟩,
          ⟨(some 4), .mov (.t 34), .none⟩,
          ⟨(some 5), .mov (.t 36), .none⟩,
          ⟨(some 6), .mov (.c (.bool true)), .none⟩]
def Tryd.fn58_r9 : List AIns :=
   [⟨(some 37), .mov (.t 9), .none⟩,
         ⟨(some 38), .bin .lss (.t 37) (.c (.int .u8 32)), .none⟩,
         ⟨(some 39), .mov (.t 38), .none⟩,
         ⟨(some 40), .mov (.t 9), (some (39, false))⟩,
         ⟨(some 41), .bin .gtr (.t 40) (.c (.int .u8 126)), (some (39, false))⟩,
         ⟨(some 42), .pick (.t 39) (.c (.bool true)) (.t 41), .none⟩]
def Tryd.fn58_r10 : List AIns :=
   [⟨(some 4), .mov (.c (.str [])), .none⟩,
          ⟨(some 5), .mov (.c (.int .i64 0)), .none⟩,
          ⟨(some 6), .mov (.c (.bool false)), .none⟩]
def Tryd.fn58_r11 : List AIns :=
   [⟨(some 43), .mov (.t 9), .none⟩,
         ⟨(some 44), .bin .neq (.t 43) (.c (.int .u8 92)), .none⟩]
def Tryd.fn58_r12 : List AIns :=
   [⟨(some 45), .mov (.t 7), .none⟩,
          ⟨(some 46), .mov (.t 9), .none⟩,
          ⟨(some 47), .bsl 5 1 1 [(.int .u8 0)] [(0, 1, (.t 46))], .none⟩,
          ⟨(some 48), .app 5 1 1 (.t 45) (.t 47), .none⟩,
          ⟨(some 7), .mov (.t 48), .none⟩]
def Tryd.fn58_r13 : List AIns :=
   [⟨(some 49), .mov (.t 8), .none⟩,
          ⟨(some 50), .bin .add (.t 49) (.c (.int .i64 1)), .none⟩,
          ⟨(some 8), .mov (.t 50), .none⟩]
def Tryd.fn58_r14 : List AIns :=
   [⟨(some 51), .mov (.t 8), .none⟩,
         ⟨(some 52), .bin .add (.t 51) (.c (.int .i64 1)), .none⟩,
         ⟨(some 53), .mov (.t 0), .none⟩,
         ⟨(some 54), .lens (.t 53), .none⟩,
         ⟨(some 55), .bin .geq (.t 52) (.t 54), .none⟩]
def Tryd.fn58_r15 : List AIns :=
   [⟨(some 4), .mov (.c (.str [])), .none⟩,
          ⟨(some 5), .mov (.c (.int .i64 0)), .none⟩,
          ⟨(some 6), .mov (.c (.bool false)), .none⟩]
def Tryd.fn58_r16 : List AIns :=
   [⟨(some 56), .mov (.t 0), .none⟩,
        ⟨(some 57), .mov (.t 8), .none⟩,
        ⟨(some 58), .bin .add (.t 57) (.c (.int .i64 1)), .none⟩,
        ⟨(some 59), .ids (.t 56) (.t 58), .none⟩,
        ⟨(some 10), .mov (.t 59), .none⟩]
def Tryd.fn58_r17 : List AIns :=
   [⟨(some 60), .mov (.t 10), .none⟩,
        ⟨(some 61), .bin .eql (.t 60) (.c (.int .u8 34)), .none⟩,
        ⟨(some 62), .mov (.t 61), .none⟩,
        ⟨(some 63), .mov (.t 10), (some (62, false))⟩,
        ⟨(some 64), .bin .eql (.t 63) (.c (.int .u8 92)), (some (62, false))⟩,
        ⟨(some 65), .pick (.t 62) (.c (.bool true)) (.t 64), .none⟩]
def Tryd.fn58_r18 : List AIns :=
   [⟨(some 66), .mov (.t 7), .none⟩,
         ⟨(some 67), .mov (.t 10), .none⟩,
         ⟨(some 68), .bsl 5 1 1 [(.int .u8 0)] [(0, 1, (.t 67))], .none⟩,
         ⟨(some 69), .app 5 1 1 (.t 66) (.t 68), .none⟩,
         ⟨(some 7), .mov (.t 69), .none⟩]
def Tryd.fn58_r19 : List AIns :=
   [⟨(some 70), .mov (.t 8), .none⟩,
        ⟨(some 71), .bin .add (.t 70) (.c (.int .i64 2)), .none⟩,
        ⟨(some 8), .mov (.t 71), .none⟩]
def Tryd.fn58_r20 : List AIns :=
   [⟨(some 72), .mov (.t 10), .none⟩,
         ⟨(some 73), .bin .eql (.t 72) (.c (.int .u8 110)), .none⟩]
def Tryd.fn58_r21 : List AIns :=
   [⟨(some 74), .mov (.t 7), .none⟩,
          ⟨(some 75), .bsl 5 1 1 [(.int .u8 0)] [(0, 1, (.c (.int .u8 10)))], .none⟩,
          ⟨(some 76), .app 5 1 1 (.t 74) (.t 75), .none⟩,
          ⟨(some 7), .mov (.t 76), .none⟩]
def Tryd.fn58_r22 : List AIns :=
   [⟨(some 77), .mov (.t 8), .none⟩,
         ⟨(some 78), .bin .add (.t 77) (.c (.int .i64 2)), .none⟩,
         ⟨(some 8), .mov (.t 78), .none⟩]
def Tryd.fn58_r23 : List AIns :=
   [⟨(some 79), .mov (.t 10), .none⟩,
           ⟨(some 80), .bin .eql (.t 79) (.c (.int .u8 120)), .none⟩,
           ⟨(some 81), .mov (.t 80), .none⟩,
           ⟨(some 82), .mov (.t 8), (some (81, true))⟩,
           ⟨(some 83), .bin .add (.t 82) (.c (.int .i64 3)), (some (81, true))⟩,
           ⟨(some 84), .mov (.t 0), (some (81, true))⟩,
           ⟨(some 85), .lens (.t 84), (some (81, true))⟩,
           ⟨(some 86), .bin .lss (.t 83) (.t 85), (some (81, true))⟩,
           ⟨(some 87), .pick (.t 81) (.t 86) (.c (.bool false)), .none⟩,
           ⟨(some 88), .mov (.t 87), .none⟩]
def Tryd.fn58_r24 : List AIns :=
   [⟨(some 89), .mov (.t 0), (some (88, true))⟩,
           ⟨(some 90), .mov (.t 8), (some (88, true))⟩,
           ⟨(some 91), .bin .add (.t 90) (.c (.int .i64 2)), (some (88, true))⟩,
           ⟨(some 92), .ids (.t 89) (.t 91), (some (88, true))⟩,
           ⟨(some 93), .call 71 [(.t 92)], (some (88, true))⟩,
           ⟨(some 94), .bin .geq (.t 93) (.c (.int .i64 0)), (some (88, true))⟩,
           ⟨(some 95), .pick (.t 88) (.t 94) (.c (.bool false)), .none⟩,
           ⟨(some 96), .mov (.t 95), .none⟩,
           ⟨(some 97), .mov (.t 0), (some (96, true))⟩,
           ⟨(some 98), .mov (.t 8), (some (96, true))⟩]
def Tryd.fn58_r25 : List AIns :=
   [⟨(some 99), .bin .add (.t 98) (.c (.int .i64 3)), (some (96, true))⟩,
          ⟨(some 100), .ids (.t 97) (.t 99), (some (96, true))⟩,
          ⟨(some 101), .call 71 [(.t 100)], (some (96, true))⟩,
          ⟨(some 102), .bin .geq (.t 101) (.c (.int .i64 0)), (some (96, true))⟩,
          ⟨(some 103), .pick (.t 96) (.t 102) (.c (.bool false)), .none⟩]
def Tryd.fn58_r26b : List DIns :=
   ⟨⟨(some 116), .bin .add (.t 110) (.t 115), .none⟩, [6, 11, 5, 4, 1, 3, 2, 10, 7, 9, 8], [13, 14, 15, 16], 0⟩ ::
   ⟨⟨(some 117), .conv .u8 (.t 116), .none⟩, [12, 6, 11, 5, 4, 1, 3, 2, 10, 7, 9, 8], [14, 15, 16], 0⟩ ::
   ⟨⟨(some 118), .bsl 5 1 1 [(.int .u8 0)] [(0, 1, (.t 117))], .none⟩, [13, 12, 6, 11, 5, 4, 1, 3, 2, 10, 7, 9, 8], [15, 16], 2⟩ ::
   ⟨⟨(some 119), .app 5 1 1 (.t 104) (.t 118), .none⟩, [0, 14, 11, 13, 12, 6, 5, 4, 1, 3, 2, 10, 7, 9, 8], [16], 2⟩ ::
   ⟨⟨(some 7), .mov (.t 119), .none⟩, [15, 0, 1, 2, 3, 4, 5, 6, 7, 8, 9, 10, 11, 12, 13, 14], [], 0⟩ ::
   []
def Tryd.fn58_r26a : List DIns :=
   ⟨⟨(some 110), .bin .mul (.t 109) (.c (.int .i64 16)), .none⟩, [5, 4, 1, 3, 2], [12, 13, 14, 15, 16], 0⟩ ::
   ⟨⟨(some 111), .mov (.t 0), .none⟩, [], [10, 11, 12, 13, 14, 15, 16], 0⟩ ::
   ⟨⟨(some 112), .mov (.t 8), .none⟩, [], [9, 10, 11, 12, 13, 14, 15, 16], 0⟩ ::
   ⟨⟨(some 113), .bin .add (.t 112) (.c (.int .i64 3)), .none⟩, [8], [10, 11, 12, 13, 14, 15, 16], 0⟩ ::
   ⟨⟨(some 114), .ids (.t 111) (.t 113), .none⟩, [7, 9, 8], [11, 12, 13, 14, 15, 16], 0⟩ ::
   ⟨⟨(some 115), .call 71 [(.t 114)], .none⟩, [10, 5, 7, 9, 8, 4, 1, 3, 2], [12, 13, 14, 15, 16], 2⟩ ::
   Tryd.fn58_r26b
def Tryd.fn58_r26 : List DIns :=
   ⟨⟨(some 104), .mov (.t 7), .none⟩, [], [15, 16], 0⟩ ::
   ⟨⟨(some 105), .mov (.t 0), .none⟩, [], [4, 5, 6, 11, 12, 13, 14, 15, 16], 0⟩ ::
   ⟨⟨(some 106), .mov (.t 8), .none⟩, [], [3, 4, 5, 6, 11, 12, 13, 14, 15, 16], 0⟩ ::
   ⟨⟨(some 107), .bin .add (.t 106) (.c (.int .i64 2)), .none⟩, [2], [4, 5, 6, 11, 12, 13, 14, 15, 16], 0⟩ ::
   ⟨⟨(some 108), .ids (.t 105) (.t 107), .none⟩, [1, 3, 2], [5, 6, 11, 12, 13, 14, 15, 16], 0⟩ ::
   ⟨⟨(some 109), .call 71 [(.t 108)], .none⟩, [4, 1, 3, 2], [6, 11, 12, 13, 14, 15, 16], 2⟩ ::
   Tryd.fn58_r26a
def Tryd.fn58_r27 : List AIns :=
   [⟨(some 120), .mov (.t 8), .none⟩,
          ⟨(some 121), .bin .add (.t 120) (.c (.int .i64 4)), .none⟩,
          ⟨(some 8), .mov (.t 121), .none⟩]
def Tryd.fn58_r28 : List AIns :=
   [⟨(some 4), .mov (.c (.str [])), .none⟩,
           ⟨(some 5), .mov (.c (.int .i64 0)), .none⟩,
           ⟨(some 6), .mov (.c (.bool false)), .none⟩]
def Tryd.fn58_r29 : List AIns :=
   [⟨(some 4), .mov (.c (.str [])), .none⟩,
    ⟨(some 5), .mov (.c (.int .i64 0)), .none⟩,
    ⟨(some 6), .mov (.c (.bool false)), .none⟩]
def Tryd.fn58_l0 : ACode :=
 (.seq (.seq (.seq (.reg Tryd.fn58_r5)
      (.trim [0, 7, 8, 27]))
     (.cond (.t 27)
      .skip
      (.exit 0)))
    (.block 1
     (.seq (.seq (.reg Tryd.fn58_r6)
      (.trim [0, 7, 8, 9]))
     (.seq (.seq (.seq (.reg Tryd.fn58_r7)
       (.trim [0, 7, 8, 9, 32]))
      (.cond (.t 32)
       (.seq (.seq (.reg Tryd.fn58_r8)
        (.trim [4, 5, 6]))
       .ret)
       .skip))
     (.seq (.seq (.seq (.reg Tryd.fn58_r9)
       (.trim [0, 7, 8, 9, 42]))
      (.cond (.t 42)
       (.seq (.seq (.reg Tryd.fn58_r10)
        (.trim [4, 5, 6]))
       .ret)
       .skip))
     (.seq (.seq (.seq (.reg Tryd.fn58_r11)
       (.trim [0, 7, 8, 9, 44]))
      (.cond (.t 44)
       (.seq (.seq (.reg Tryd.fn58_r12)
        (.trim [0, 7, 8]))
       (.seq (.seq (.reg Tryd.fn58_r13)
        (.trim [0, 7, 8]))
       (.exit 1)))
       .skip))
     (.seq (.seq (.seq (.reg Tryd.fn58_r14)
       (.trim [0, 7, 8, 55]))
      (.cond (.t 55)
       (.seq (.seq (.reg Tryd.fn58_r15)
        (.trim [4, 5, 6]))
       .ret)
       .skip))
     (.seq (.seq (.reg Tryd.fn58_r16)
      (.trim [0, 7, 8, 10]))
     (.seq (.seq (.reg Tryd.fn58_r17)
      (.trim [0, 7, 8, 10, 65]))
     (.cond (.t 65)
      (.seq (.seq (.reg Tryd.fn58_r18)
       (.trim [0, 7, 8]))
      (.seq (.reg Tryd.fn58_r19)
      (.trim [0, 7, 8])))
      (.seq (.seq (.reg Tryd.fn58_r20)
       (.trim [0, 7, 8, 10, 73]))
      (.cond (.t 73)
       (.seq (.seq (.reg Tryd.fn58_r21)
        (.trim [0, 7, 8]))
       (.seq (.reg Tryd.fn58_r22)
       (.trim [0, 7, 8])))
       (.seq (.seq (.seq (.reg Tryd.fn58_r23)
         (.trim [0, 7, 8, 88]))
        (.seq (.seq (.reg Tryd.fn58_r24)
         (.trim [0, 7, 8, 96, 97, 98]))
        (.seq (.reg Tryd.fn58_r25)
        (.trim [0, 7, 8, 103]))))
       (.cond (.t 103)
        (.seq (.seq (.regd Tryd.fn58_r26)
         (.trim [0, 7, 8]))
        (.seq (.reg Tryd.fn58_r27)
        (.trim [0, 7, 8])))
        (.seq (.seq (.reg Tryd.fn58_r28)
         (.trim [4, 5, 6]))
        .ret)))))))))))))))
def Tryd.fn58 : AFun :=
 ⟨122, [.tmp 4, .tmp 5, .tmp 6],
 (.seq (.seq (.reg Tryd.fn58_r0)
  (.trim [0, 1]))
 (.seq (.seq (.seq (.reg Tryd.fn58_r1)
   (.trim [0, 1, 20]))
  (.cond (.t 20)
   (.seq (.seq (.reg Tryd.fn58_r2)
    (.trim [4, 5, 6]))
   .ret)
   .skip))
 (.seq (.seq (.reg Tryd.fn58_r3)
  (.trim [0, 1, 7]))
 (.seq (.seq (.reg Tryd.fn58_r4)
  (.trim [0, 7, 8]))
 (.seq (.block 0
   (.loop (some [0, 7, 8])
    Tryd.fn58_l0))
 (.seq (.seq (.reg Tryd.fn58_r29)
  (.trim [4, 5, 6]))
 .ret)))))), true⟩
/-! cmp.isNaN[int] -/
def Tryd.fn59_r0 : List AIns :=
   [⟨(some 2), .mov (.c (.bool false)), .none⟩]
def Tryd.fn59_r1 : List AIns :=
   [⟨(some 3), .mov (.t 0), .none⟩,
    ⟨(some 4), .mov (.t 0), .none⟩,
    ⟨(some 5), .bin .neq (.t 3) (.t 4), .none⟩,
    ⟨(some 2), .mov (.t 5), .none⟩]
def Tryd.fn59 : AFun :=
 ⟨6, [.tmp 2],
 (.seq (.seq (.reg Tryd.fn59_r0)
  (.trim [0]))
 (.seq (.seq (.reg Tryd.fn59_r1)
  (.trim [2]))
 .ret)), true⟩
/-! (*strings.Builder).copyCheck -/
def Tryd.fn62_r0 : List AIns :=
   [⟨(some 2), .mov (.t 0), .none⟩,
    ⟨(some 3), .nlc (.t 2), .none⟩,
    ⟨(some 4), .fa 0 (.t 3), .none⟩,
    ⟨(some 5), .ld1 (.t 4), .none⟩,
    ⟨(some 6), .eqv false true .ptr (.t 5) (.c .nilp), .none⟩]
def Tryd.fn62_r1 : List AIns :=
   [⟨(some 7), .mov (.t 0), .none⟩,
    ⟨(some 8), .mov (.t 0), .none⟩,
    ⟨(some 9), .tous (.t 8), .none⟩,
    ⟨(some 10), .call 77 [(.t 9)], .none⟩,
    ⟨(some 11), .frus 70 2 (.t 10), .none⟩,
    ⟨(some 12), .nlc (.t 7), .none⟩,
    ⟨(some 13), .fa 0 (.t 12), .none⟩,
    ⟨.none, .st 1 (.t 13) (.t 11), .none⟩]
def Tryd.fn62_r2 : List AIns :=
   [⟨(some 14), .mov (.t 0), .none⟩,
     ⟨(some 15), .nlc (.t 14), .none⟩,
     ⟨(some 16), .fa 0 (.t 15), .none⟩,
     ⟨(some 17), .ld1 (.t 16), .none⟩,
     ⟨(some 18), .mov (.t 0), .none⟩,
     ⟨(some 19), .eqv true false .ptr (.t 17) (.t 18), .none⟩]
def Tryd.fn62_r3 : List AIns :=
   [⟨.none, .ext 0 (.c .nilp), .none⟩]
def Tryd.fn62 : AFun :=
 ⟨20, [],
 (.seq (.seq (.reg Tryd.fn62_r0)
  (.trim [0, 6]))
 (.cond (.t 6)
  (.seq (.reg Tryd.fn62_r1)
  (.trim []))
  (.seq (.seq (.reg Tryd.fn62_r2)
   (.trim [19]))
  (.cond (.t 19)
   (.seq (.reg Tryd.fn62_r3)
   (.trim []))
   .skip)))), false⟩
/-! signalbench/lex.hex -/
def Tryd.fn67_r0 : List AIns :=
   [⟨(some 2), .mov (.c (.int .i64 0)), .none⟩]
def Tryd.fn67_r1 : List AIns :=
   [⟨(some 4), .mov (.t 0), .none⟩,
      ⟨(some 5), .bin .leq (.c (.int .u8 48)) (.t 4), .none⟩,
      ⟨(some 6), .mov (.t 5), .none⟩,
      ⟨(some 7), .mov (.t 0), (some (6, true))⟩,
      ⟨(some 8), .bin .leq (.t 7) (.c (.int .u8 57)), (some (6, true))⟩,
      ⟨(some 9), .pick (.t 6) (.t 8) (.c (.bool false)), .none⟩,
      ⟨(some 3), .mov (.t 9), .none⟩]
def Tryd.fn67_r2 : List AIns :=
   [⟨(some 10), .mov (.t 0), .none⟩,
       ⟨(some 11), .bin .sub (.t 10) (.c (.int .u8 48)), .none⟩,
       ⟨(some 12), .conv .i64 (.t 11), .none⟩,
       ⟨(some 2), .mov (.t 12), .none⟩]
def Tryd.fn67_r3 : List AIns :=
   [⟨(some 14), .mov (.t 0), .none⟩,
       ⟨(some 15), .bin .leq (.c (.int .u8 97)) (.t 14), .none⟩,
       ⟨(some 16), .mov (.t 15), .none⟩,
       ⟨(some 17), .mov (.t 0), (some (16, true))⟩,
       ⟨(some 18), .bin .leq (.t 17) (.c (.int .u8 102)), (some (16, true))⟩,
       ⟨(some 19), .pick (.t 16) (.t 18) (.c (.bool false)), .none⟩,
       ⟨(some 13), .mov (.t 19), .none⟩]
def Tryd.fn67_r4 : List AIns :=
   [⟨(some 20), .mov (.t 0), .none⟩,
        ⟨(some 21), .bin .sub (.t 20) (.c (.int .u8 97)), .none⟩,
        ⟨(some 22), .conv .i64 (.t 21), .none⟩,
        ⟨(some 23), .bin .add (.t 22) (.c (.int .i64 10)), .none⟩,
        ⟨(some 2), .mov (.t 23), .none⟩]
def Tryd.fn67_r5 : List AIns :=
   [⟨(some 2), .mov (.c (.int .i64 (-1))), .none⟩]
def Tryd.fn67 : AFun :=
 ⟨24, [.tmp 2],
 (.seq (.seq (.reg Tryd.fn67_r0)
  (.trim [0]))
 (.seq (.block 0
   (.seq (.seq (.reg Tryd.fn67_r1)
    (.trim [0, 3]))
   (.cond (.t 3)
    (.seq (.seq (.reg Tryd.fn67_r2)
     (.trim [2]))
    .ret)
    (.seq (.seq (.reg Tryd.fn67_r3)
     (.trim [0, 13]))
    (.cond (.t 13)
     (.seq (.seq (.reg Tryd.fn67_r4)
      (.trim [2]))
     .ret)
     .skip)))))
 (.seq (.seq (.reg Tryd.fn67_r5)
  (.trim [2]))
 .ret))), true⟩
/-! internal/stringslite.TrimPrefix -/
def Tryd.fn68_r0 : List AIns :=
   [⟨(some 4), .mov (.c (.str [])), .none⟩]
def Tryd.fn68_r1 : List AIns :=
   [⟨(some 5), .mov (.t 0), .none⟩,
     ⟨(some 6), .mov (.t 1), .none⟩,
     ⟨(some 7), .call 83 [(.t 5), (.t 6)], .none⟩]
def Tryd.fn68_r2 : List AIns :=
   [⟨(some 8), .mov (.t 0), .none⟩,
      ⟨(some 9), .mov (.t 1), .none⟩,
      ⟨(some 10), .lens (.t 9), .none⟩,
      ⟨(some 11), .sub (.t 8) (some (.t 10)) .none, .none⟩,
      ⟨(some 4), .mov (.t 11), .none⟩]
def Tryd.fn68_r3 : List AIns :=
   [⟨(some 12), .mov (.t 0), .none⟩,
    ⟨(some 4), .mov (.t 12), .none⟩]
def Tryd.fn68 : AFun :=
 ⟨13, [.tmp 4],
 (.seq (.seq (.reg Tryd.fn68_r0)
  (.trim [0, 1]))
 (.seq (.seq (.seq (.reg Tryd.fn68_r1)
   (.trim [0, 1, 7]))
  (.cond (.t 7)
   (.seq (.seq (.reg Tryd.fn68_r2)
    (.trim [4]))
   .ret)
   .skip))
 (.seq (.seq (.reg Tryd.fn68_r3)
  (.trim [4]))
 .ret))), true⟩
/-! signalbench/signalbenchref05.hexa -/
def Tryd.fn71_r0 : List AIns :=
   [⟨(some 2), .mov (.c (.int .i64 0)), .none⟩]
def Tryd.fn71_r1 : List AIns :=
   [⟨(some 3), .mov (.t 0), .none⟩,
     ⟨(some 4), .call 89 [(.t 3)], .none⟩]
def Tryd.fn71_r2 : List AIns :=
   [⟨(some 5), .mov (.t 0), .none⟩,
      ⟨(some 6), .conv .i64 (.t 5), .none⟩,
      ⟨(some 7), .bin .sub (.t 6) (.c (.int .i64 48)), .none⟩,
      ⟨(some 2), .mov (.t 7), .none⟩]
def Tryd.fn71_r3 : List AIns :=
   [⟨(some 8), .mov (.t 0), .none⟩,
     ⟨(some 9), .bin .geq (.t 8) (.c (.int .u8 97)), .none⟩,
     ⟨(some 10), .mov (.t 9), .none⟩,
     ⟨(some 11), .mov (.t 0), (some (10, true))⟩,
     ⟨(some 12), .bin .leq (.t 11) (.c (.int .u8 102)), (some (10, true))⟩,
     ⟨(some 13), .pick (.t 10) (.t 12) (.c (.bool false)), .none⟩]
def Tryd.fn71_r4 : List AIns :=
   [⟨(some 14), .mov (.t 0), .none⟩,
      ⟨(some 15), .conv .i64 (.t 14), .none⟩,
      ⟨(some 16), .bin .sub (.t 15) (.c (.int .i64 97)), .none⟩,
      ⟨(some 17), .bin .add (.t 16) (.c (.int .i64 10)), .none⟩,
      ⟨(some 2), .mov (.t 17), .none⟩]
def Tryd.fn71_r5 : List AIns :=
   [⟨(some 2), .mov (.c (.int .i64 (-1))), .none⟩]
def Tryd.fn71 : AFun :=
 ⟨18, [.tmp 2],
 (.seq (.seq (.reg Tryd.fn71_r0)
  (.trim [0]))
 (.seq (.seq (.seq (.reg Tryd.fn71_r1)
   (.trim [0, 4]))
  (.cond (.t 4)
   (.seq (.seq (.reg Tryd.fn71_r2)
    (.trim [2]))
   .ret)
   .skip))
 (.seq (.seq (.seq (.reg Tryd.fn71_r3)
   (.trim [0, 13]))
  (.cond (.t 13)
   (.seq (.seq (.reg Tryd.fn71_r4)
    (.trim [2]))
   .ret)
   .skip))
 (.seq (.seq (.reg Tryd.fn71_r5)
  (.trim [2]))
 .ret)))), true⟩
/-! internal/stringslite.HasPrefix -/
def Tryd.fn83_r0 : List AIns :=
   [⟨(some 4), .mov (.c (.bool false)), .none⟩]
def Tryd.fn83_r1 : List AIns :=
   [⟨(some 5), .mov (.t 0), .none⟩,
     ⟨(some 6), .lens (.t 5), .none⟩,
     ⟨(some 7), .mov (.t 1), .none⟩,
     ⟨(some 8), .lens (.t 7), .none⟩,
     ⟨(some 9), .bin .geq (.t 6) (.t 8), .none⟩,
     ⟨(some 10), .mov (.t 9), .none⟩,
     ⟨(some 11), .mov (.t 0), (some (10, true))⟩,
     ⟨(some 12), .mov (.t 1), (some (10, true))⟩,
     ⟨(some 13), .lens (.t 12), (some (10, true))⟩,
     ⟨(some 14), .sub (.t 11) .none (some (.t 13)), (some (10, true))⟩]
def Tryd.fn83_r2 : List AIns :=
   [⟨(some 15), .mov (.t 1), (some (10, true))⟩,
    ⟨(some 16), .bin .eql (.t 14) (.t 15), (some (10, true))⟩,
    ⟨(some 17), .pick (.t 10) (.t 16) (.c (.bool false)), .none⟩,
    ⟨(some 4), .mov (.t 17), .none⟩]
def Tryd.fn83 : AFun :=
 ⟨18, [.tmp 4],
 (.seq (.seq (.reg Tryd.fn83_r0)
  (.trim [0, 1]))
 (.seq (.seq (.seq (.reg Tryd.fn83_r1)
   (.trim [1, 10, 14]))
  (.seq (.reg Tryd.fn83_r2)
  (.trim [4])))
 .ret)), true⟩
/-! signalbench/signalbenchref05.digit -/
def Tryd.fn89_r0 : List AIns :=
   [⟨(some 2), .mov (.c (.bool false)), .none⟩]
def Tryd.fn89_r1 : List AIns :=
   [⟨(some 3), .mov (.t 0), .none⟩,
    ⟨(some 4), .bin .geq (.t 3) (.c (.int .u8 48)), .none⟩,
    ⟨(some 5), .mov (.t 4), .none⟩,
    ⟨(some 6), .mov (.t 0), (some (5, true))⟩,
    ⟨(some 7), .bin .leq (.t 6) (.c (.int .u8 57)), (some (5, true))⟩,
    ⟨(some 8), .pick (.t 5) (.t 7) (.c (.bool false)), .none⟩,
    ⟨(some 2), .mov (.t 8), .none⟩]
def Tryd.fn89 : AFun :=
 ⟨9, [.tmp 2],
 (.seq (.seq (.reg Tryd.fn89_r0)
  (.trim [0]))
 (.seq (.seq (.reg Tryd.fn89_r1)
  (.trim [2]))
 .ret)), true⟩
theorem Tryd.fn3_ok : cfunL Tryd.prog Tryd.f3 [.cut [(3, [2, 3])], .cut [(10, [2, 3, 14])], .cut [(2, [4])], .keep [4]] true = some Tryd.fn3 := by kernel_rfl
theorem Tryd.fn4_ok : cfunL Tryd.prog Tryd.f4 [.cut [(2, [0, 2, 4])], .cut [(3, [0, 2, 4, 13])], .cut [(2, [6])], .cut [(8, [0, 2, 4, 7, 8])], .cut [(8, [0, 4, 7, 8, 9, 10])], .keep [6]] true = some Tryd.fn4 := by kernel_rfl
theorem Tryd.fn5_ok : cfunL Tryd.prog Tryd.f5 [.cut [(2, [1])], .cut [(4, [1, 10])], .cut [(2, [2])], .cut [(7, [1, 3, 4])], .cut [(7, [3, 4, 5, 6])], .cut [(10, [30, 31]), (2, [2])]] true = some Tryd.fn5 := by kernel_rfl
theorem Tryd.fn6_ok : cfunL Tryd.prog Tryd.f6 [.cut [(1, [0])], .cut [(3, [0, 9])], .cut [(2, [2])], .cut [(8, [0, 3, 4])], .cut [(8, [3, 4, 5, 6])], .cut [(10, [29, 30]), (2, [2])]] true = some Tryd.fn6 := by kernel_rfl
theorem Tryd.fn7_ok : cfunL Tryd.prog Tryd.f7 [.cut [(2, [1, 2])], .cut [(9, [1, 2, 20])], .cut [(2, [4])], .cut [(7, [1, 2, 5, 6])], .cut [(5, [1, 2, 5, 6, 31])], .cut [(1, [4])], .cut [(2, [1, 2, 5, 33])], .cut [(8, [1, 2, 7, 8])], .cut [(7, [1, 45])], .cut [(1, [4])], .cut [(8, [1, 6, 9])], .cut [(2, [1, 9, 52])], .cut [(2, [4])], .cut [(7, [1, 10, 11])], .cut [(10, [68]), (1, [4])]] true = some Tryd.fn7 := by kernel_rfl
theorem Tryd.fn8_ok : cfunL Tryd.prog Tryd.f8 [.cut [(1, [0, 1])], .cut [(3, [0, 1, 12])], .cut [(2, [4])], .cut [(8, [0, 1, 5, 6])], .cut [(2, [0, 1, 5, 21])], .cut [(7, [4])], .cut [(10, [0, 1, 5, 33, 37]), (8, [0, 1, 5, 45])], .cut [(1, [4])], .cut [(1, [0, 1, 5, 7])], .keep [0, 1, 5, 7], .cut [(4, [0, 1, 5, 7, 49])], .keep [0, 1, 5, 7, 92], .cut [(1, [4])], .cut [(3, [0, 1, 5, 7])], .cut [(3, [0, 1, 5, 95])], .cut [(2, [4])], .cut [(9, [0, 8, 9])], .cut [(10, [113]), (1, [4])]] true = some Tryd.fn8 := by kernel_rfl
theorem Tryd.fn9_ok : cfunL Tryd.prog Tryd.f9 [.cut [(1, [])], .cut [(3, [1])], .cut [(7, [1, 2, 3])], .cut [(8, [1, 2, 3, 4, 5])], .cut [(7, [1, 2, 3, 4, 5, 7])], .cut [(8, [1, 2, 3, 4, 5, 7, 8, 9])], .cut [(10, [1, 2, 4, 8, 9, 40]), (10, [1, 2, 4, 8, 50]), (10, [1, 2, 4, 8, 57, 60]), (3, [1, 2, 4, 8, 63])], .cut [(1, [0])], .keep [0]] true = some Tryd.fn9 := by kernel_rfl
theorem Tryd.fn10_ok : cfunL Tryd.prog Tryd.f10 [.cut [(2, [1])], .cut [(9, [1, 3])], .cut [(1, [2])], .cut [(10, [1, 22]), (6, [1, 12])], .cut [(1, [2])], .cut [(10, [1, 37, 38]), (9, [1, 28])], .cut [(1, [2])], .cut [(10, [1, 56]), (5, [2])]] true = some Tryd.fn10 := by kernel_rfl
theorem Tryd.fn11_ok : cfunL Tryd.prog Tryd.f11 [.cut [(2, [1])], .cut [(10, [1, 11, 12]), (10, [1, 22]), (10, [1, 28, 32]), (10, [1, 39, 42]), (1, [1, 43])], .cut [(1, [2])], .cut [(10, [1, 52, 53]), (9, [2])]] true = some Tryd.fn11 := by kernel_rfl
theorem Tryd.fn12_ok : cfunL Tryd.prog Tryd.f12 [.cut [(3, [2, 3])], .cut [(5, [4])]] true = some Tryd.fn12 := by kernel_rfl
theorem Tryd.fn13_ok : cfunL Tryd.prog Tryd.f13 [.cut [(3, [2, 3])], .cut [(5, [2, 3, 9])], .cut [(6, [4])], .cut [(5, [2, 3, 19])], .cut [(6, [4])], .cut [(5, [2, 3, 29])], .cut [(6, [4])], .cut [(5, [2, 3, 39])], .cut [(6, [4])], .cut [(5, [2, 3, 49])], .cut [(6, [4])], .cut [(5, [2, 3, 59])], .cut [(6, [4])], .cut [(6, [4])]] true = some Tryd.fn13 := by kernel_rfl
theorem Tryd.fn14_ok : cfunL Tryd.prog Tryd.f14 [.cut [(2, [1, 2])], .cut [(4, [1, 2])], .cut [(2, [2])]] true = some Tryd.fn14 := by kernel_rfl
theorem Tryd.fn15_ok : cfunL Tryd.prog Tryd.f15 [.cut [(2, [1, 2])], .cut [(2, [1, 2])], .cut [(2, [1, 2])], .cut [(2, [2])]] true = some Tryd.fn15 := by kernel_rfl
theorem Tryd.fn16_ok : cfunL Tryd.prog Tryd.f16 [.cut [(1, [0])], .cut [(3, [0, 6])], .cut [(1, [2])], .cut [(1, [0, 3])], .keep [0, 3], .cut [(4, [0, 3, 10])], .cut [(7, [0, 3, 19])], .cut [(1, [2])], .cut [(3, [0, 3])], .cut [(1, [2])]] true = some Tryd.fn16 := by kernel_rfl
theorem Tryd.fn17_ok : cfunL Tryd.prog Tryd.f17 [.cut [(2, [0, 1])], .cut [(3, [0, 1, 10, 11, 12])], .keep [0, 1, 10, 11, 12], .cut [(1, [0, 1, 10, 11, 12, 13])], .cut [(4, [0, 1, 7, 10, 11, 12])], .cut [(3, [0, 1, 10, 11, 12, 18])], .cut [(2, [4, 5])], .cut [(2, [0, 1, 10, 11, 12])], .cut [(10, [0, 1, 23, 29]), (1, [0, 1, 30])], .cut [(2, [4, 5])], .cut [(3, [1, 8])], .cut [(3, [1, 8, 34, 35])], .keep [1, 8, 34, 35], .cut [(1, [1, 8, 34, 35, 36])], .cut [(2, [1, 8, 9, 34, 35])], .cut [(10, [1, 8, 9, 34, 35])], .cut [(10, [1, 8, 9, 34, 35])], .cut [(6, [1, 8, 34, 35, 61])], .cut [(2, [4, 5])], .cut [(2, [1, 8, 34, 35])], .cut [(3, [4, 5])]] true = some Tryd.fn17 := by kernel_rfl
theorem Tryd.fn18_ok : cfunL Tryd.prog Tryd.f18 [.cut [(2, [0, 1])], .cut [(1, [0, 1, 6])], .keep [0, 1, 6], .cut [(4, [0, 1, 6, 13])], .cut [(6, [0, 1, 6, 21])], .cut [(2, [4, 5])], .cut [(3, [0, 1, 6])], .cut [(10, [0, 1, 25, 31]), (1, [0, 1, 32])], .cut [(2, [4, 5])], .cut [(2, [0, 1, 7])], .cut [(1, [0, 1, 7, 8])], .keep [0, 1, 7, 8], .cut [(4, [0, 1, 7, 8, 37])], .cut [(6, [0, 1, 7, 8, 9])], .cut [(6, [0, 1, 7, 8, 9])], .cut [(6, [0, 1, 7, 8, 9])], .cut [(3, [0, 1, 7, 8, 9, 56])], .cut [(2, [4, 5])], .cut [(5, [0, 1, 7, 8])], .cut [(3, [0, 1, 7, 8])], .cut [(3, [4, 5])]] true = some Tryd.fn18 := by kernel_rfl
theorem Tryd.fn19_ok : cfunL Tryd.prog Tryd.f19 [.cut [(1, [0, 1])], .cut [(5, [0, 1, 10])], .cut [(1, [4])], .cut [(1, [0, 1, 5])], .keep [0, 1, 5], .cut [(4, [0, 1, 5, 14])], .keep [0, 1, 5, 25], .cut [(1, [4])], .cut [(3, [0, 1, 5])], .cut [(1, [4])]] true = some Tryd.fn19 := by kernel_rfl
theorem Tryd.fn20_ok : cfunL Tryd.prog Tryd.f20 [.cut [(2, [0, 3])], .cut [(1, [0, 3, 5])], .cut [(3, [3, 5, 8, 9, 10])], .keep [3, 5, 8, 9, 10], .cut [(1, [3, 5, 8, 9, 10, 11])], .cut [(4, [3, 5, 7, 8, 9, 10])], .cut [(10, [3, 5, 7, 8, 9, 10, 19, 21, 23]), (2, [3, 5, 7, 8, 9, 10, 25])], .cut [(5, [3, 5, 8, 9, 10])], .cut [(2, [3, 5, 8, 9, 10])], .cut [(2, [4])]] true = some Tryd.fn20 := by kernel_rfl
theorem Tryd.fn21_ok : cfunL Tryd.prog Tryd.f21 [.cut [(2, [0, 3])], .cut [(2, [0, 3, 5])], .cut [(1, [0, 3, 5, 6])], .keep [0, 3, 5, 6], .cut [(4, [0, 3, 5, 6, 11])], .keep [0, 3, 5, 6, 31], .cut [(8, [0, 3, 5, 6])], .cut [(3, [0, 3, 5, 6])], .cut [(2, [4])]] true = some Tryd.fn21 := by kernel_rfl
theorem Tryd.fn22_ok : cfunL Tryd.prog Tryd.f22 [.cut [(3, [1])], .cut [(3, [1, 9])], .cut [(2, [2, 3])], .keep [1, 4], .cut [(10, [1, 4, 18, 20, 22, 24, 26]), (3, [1, 4, 27, 28, 29])], .keep [1, 4, 27, 28, 29], .cut [(1, [1, 4, 27, 28, 29, 30])], .cut [(3, [1, 4, 6, 27, 28, 29])], .cut [(6, [1, 4, 27, 28, 29])], .cut [(2, [1, 4, 27, 28, 29])], .cut [(9, [2, 3])]] true = some Tryd.fn22 := by kernel_rfl
theorem Tryd.fn23_ok : cfunL Tryd.prog Tryd.f23 [.cut [(3, [1])], .cut [(3, [1, 7])], .cut [(2, [2, 3])], .keep [1, 4], .cut [(8, [2, 3])]] true = some Tryd.fn23 := by kernel_rfl
theorem Tryd.fn24_ok : cfunL Tryd.prog Tryd.f24 [.cut [(2, [0, 2])], .cut [(3, [2, 4])], .cut [(3, [2, 4, 19])], .cut [(3, [2, 3])], .keep [2, 4, 5], .cut [(9, [2, 4, 5, 6, 7])], .keep [2, 4, 5, 6, 47], .cut [(3, [2, 3])], .cut [(1, [2, 4, 5, 6, 8])], .cut [(1, [2, 4, 5, 6, 8, 9])], .cut [(1, [2, 4, 5, 6, 8, 9, 49])], .keep [2, 4, 5, 6, 8, 9, 49], .cut [(1, [2, 4, 5, 6, 8, 9, 49, 50])], .cut [(2, [2, 4, 5, 6, 8, 9, 10, 49])], .cut [(10, [2, 4, 5, 6, 8, 9, 10, 49, 59, 60, 61]), (3, [2, 4, 5, 6, 8, 9, 10, 11, 12, 13, 49])], .cut [(2, [2, 4, 5, 6, 8, 9, 10, 11, 13, 49, 63])], .cut [(3, [2, 3])], .cut [(4, [2, 4, 5, 6, 8, 9, 13, 49])], .cut [(5, [2, 4, 5, 6, 8, 9, 49])], .cut [(2, [2, 4, 5, 6, 8, 9, 49])], .cut [(10, [2, 6, 8, 73, 75, 77, 79, 81, 82]), (5, [2, 8, 14])], .cut [(7, [2, 14, 92])], .cut [(3, [2, 3])], .cut [(3, [2, 3])]] true = some Tryd.fn24 := by kernel_rfl
theorem Tryd.fn25_ok : cfunL Tryd.prog Tryd.f25 [.cut [(2, [0, 2])], .cut [(9, [2, 4, 5, 6])], .cut [(7, [2, 4, 5, 29])], .cut [(3, [2, 3])], .cut [(2, [2, 4, 5, 7])], .cut [(1, [2, 4, 5, 7, 8])], .keep [2, 4, 5, 7, 8], .cut [(2, [2, 4, 5, 7, 8, 33])], .cut [(9, [2, 4, 7, 8, 9, 10, 11])], .cut [(7, [2, 4, 7, 8, 10, 11, 12, 13])], .cut [(6, [2, 4, 7, 8, 10, 12, 52])], .cut [(3, [2, 3])], .cut [(5, [2, 4, 7, 8, 10])], .cut [(2, [2, 4, 5, 7, 8])], .cut [(3, [2, 4, 5, 7, 8])], .cut [(7, [2, 4, 5, 7, 14, 15])], .cut [(8, [2, 4, 7, 14, 71])], .cut [(3, [2, 3])], .keep [2, 16], .cut [(3, [2, 16, 94])], .cut [(3, [2, 3])], .cut [(3, [2, 3])]] true = some Tryd.fn25 := by kernel_rfl
theorem Tryd.fn26_ok : cfunL Tryd.prog Tryd.f26 [.cut [(1, [0])], .cut [(1, [0, 3])], .keep [0, 3], .cut [(4, [0, 3, 7])], .keep [0, 3, 19], .cut [(1, [2])], .cut [(3, [0, 3])], .cut [(1, [2])]] true = some Tryd.fn26 := by kernel_rfl
theorem Tryd.fn27_ok : cfunL Tryd.prog Tryd.f27 [.cut [(3, [2, 3])], .keep [2, 3, 23], .cut [(1, [4])], .keep [4]] true = some Tryd.fn27 := by kernel_rfl
theorem Tryd.fn28_ok : cfunL Tryd.prog Tryd.f28 [.cut [(1, [0])], .cut [(2, [0, 4])], .cut [(1, [2])], .cut [(4, [2])]] true = some Tryd.fn28 := by kernel_rfl
theorem Tryd.fn29_ok : cfunL Tryd.prog Tryd.f29 [.cut [(1, [])], .cut [(2, [0])]] true = some Tryd.fn29 := by kernel_rfl
theorem Tryd.fn32_ok : cfunL Tryd.prog Tryd.f32 [.cut [(1, [0])], .cut [(1, [0, 3])], .cut [(1, [0, 3])], .cut [(3, [0, 3, 8, 9])], .keep [0, 3, 8, 9], .cut [(1, [0, 3, 8, 9, 10])], .cut [(2, [0, 3, 4, 8, 9])], .cut [(4, [0, 3, 5, 8, 9])], .cut [(4, [0, 3, 5, 8, 9, 24])], .cut [(2, [0, 3, 8, 9])], .cut [(7, [0, 3, 5, 8, 9, 30])], .cut [(1, [0, 3, 5, 8, 9])], .cut [(2, [0, 3, 8, 9])], .cut [(3, [0, 3, 5, 8, 9, 40])], .cut [(1, [0, 3, 8, 9])], .cut [(1, [0, 3, 5, 8, 9])], .cut [(4, [0, 3, 5, 8, 9])], .cut [(4, [0, 3, 8, 9])], .cut [(2, [0, 3, 8, 9])], .cut [(1, [3])], .cut [(2, [2])]] true = some Tryd.fn32 := by kernel_rfl
theorem Tryd.fn33_ok : cfunL Tryd.prog Tryd.f33 [.cut [(1, [])], .cut [(2, [0])]] true = some Tryd.fn33 := by kernel_rfl
theorem Tryd.fn34_ok : cfunL Tryd.prog Tryd.f34 [.cut [(1, [0])], .cut [(2, [0, 4])], .cut [(5, [2])], .cut [(3, [2])]] true = some Tryd.fn34 := by kernel_rfl
theorem Tryd.fn35_ok : cfunL Tryd.prog Tryd.f35 [.cut [(1, [0])], .cut [(1, [0, 3])], .cut [(2, [0, 3, 4])], .cut [(1, [0, 3, 4, 5])], .keep [0, 3, 4, 5], .cut [(4, [0, 3, 4, 5, 11])], .cut [(4, [0, 3, 4, 5, 6])], .cut [(6, [0, 3, 4, 5, 6, 22])], .cut [(5, [0, 3, 4, 5])], .cut [(2, [0, 3, 4, 5, 6, 28])], .cut [(4, [0, 3, 4, 5])], .cut [(6, [0, 3, 4, 5, 6, 37])], .keep [0, 3, 4, 5], .cut [(5, [0, 3, 4, 5])], .cut [(3, [0, 3, 4, 5])], .cut [(5, [2])]] true = some Tryd.fn35 := by kernel_rfl
theorem Tryd.fn37_ok : cfunL Tryd.prog Tryd.f37 [.cut [(1, [0, 1])], .cut [(3, [0, 1, 7, 8])], .keep [0, 1, 7, 8], .cut [(1, [0, 1, 7, 8, 9])], .cut [(2, [0, 1, 5, 7, 8])], .cut [(6, [0, 1, 5, 7, 8, 16])], .cut [(2, [4])], .cut [(2, [0, 1, 7, 8])], .cut [(1, [4])]] true = some Tryd.fn37 := by kernel_rfl
theorem Tryd.fn38_ok : cfunL Tryd.prog Tryd.f38 [.cut [(2, [0])], .cut [(10, [0, 15, 16]), (6, [0, 22])], .cut [(2, [2, 3])], .cut [(6, [0])], .cut [(1, [0, 4])], .keep [0, 4], .cut [(2, [0, 4, 29])], .cut [(4, [0, 4, 33])], .keep [0, 4], .cut [(2, [0, 4, 5, 6])], .cut [(3, [0, 4, 5, 6, 43])], .cut [(7, [0, 4, 5, 6])], .cut [(2, [0, 4, 5, 6, 50])], .cut [(2, [2, 3])], .keep [0, 4], .cut [(4, [2, 3])]] true = some Tryd.fn38 := by kernel_rfl
theorem Tryd.fn39_ok : cfunL Tryd.prog Tryd.f39 [.cut [(3, [0])], .cut [(3, [0, 5])], .cut [(10, [0, 5, 12, 19]), (1, [0, 5, 20])], .cut [(3, [2, 3, 4])], .cut [(3, [0, 5, 22, 23])], .keep [0, 5, 22, 23], .cut [(1, [0, 5, 22, 23, 24])], .cut [(2, [0, 5, 6, 22, 23])], .cut [(10, [0, 5, 22, 23, 35])], .cut [(3, [2, 3, 4])], .cut [(2, [0, 5, 22, 23])], .cut [(7, [2, 7])], .keep [2, 3, 4]] true = some Tryd.fn39 := by kernel_rfl
theorem Tryd.fn40_ok : cfunL Tryd.prog Tryd.f40 [.cut [(3, [0])], .cut [(1, [0, 5])], .keep [0, 5], .cut [(4, [0, 5, 9])], .cut [(4, [0, 5, 15])], .keep [2, 3, 4], .cut [(3, [0, 5])], .cut [(3, [2, 3, 4])]] true = some Tryd.fn40 := by kernel_rfl
theorem Tryd.fn41_ok : cfunL Tryd.prog Tryd.f41 [.cut [(1, [0])], .cut [(2, [0, 3])], .cut [(1, [0, 3, 4])], .keep [0, 3, 4], .cut [(4, [0, 3, 4, 9])], .cut [(6, [0, 3, 4, 17])], .cut [(3, [2])], .cut [(3, [0, 3, 4])], .cut [(1, [2])]] true = some Tryd.fn41 := by kernel_rfl
theorem Tryd.fn42_ok : cfunL Tryd.prog Tryd.f42 [.cut [(2, [0])], .cut [(8, [0, 4])], .cut [(1, [0, 4, 14])], .cut [(3, [0, 4])], .cut [(10, [0, 4, 19, 23, 26]), (5, [0, 4, 31])], .cut [(2, [2, 3])], .cut [(1, [0, 4, 5])], .cut [(1, [0, 4, 5, 6])], .keep [0, 4, 5, 6], .cut [(4, [0, 4, 5, 6, 35])], .cut [(10, [0, 4, 5, 6, 47])], .cut [(2, [2, 3])], .cut [(2, [0, 4, 5, 6, 49])], .cut [(9, [0, 4, 5, 6])], .cut [(3, [0, 4, 5, 6])], .cut [(2, [4, 5, 59])], .cut [(1, [4, 5])], .cut [(1, [5, 60])], .cut [(4, [2, 3])], .cut [(3, [2, 3])]] true = some Tryd.fn42 := by kernel_rfl
theorem Tryd.fn43_ok : cfunL Tryd.prog Tryd.f43 [.cut [(2, [0])], .cut [(9, [0, 4, 5, 6])], .cut [(8, [4, 20])], .cut [(2, [2, 3])], .cut [(3, [2, 3])]] true = some Tryd.fn43 := by kernel_rfl
theorem Tryd.fn44_ok : cfunL Tryd.prog Tryd.f44 [.cut [(1, [0])], .cut [(1, [0, 3])], .cut [(3, [3, 6, 7, 8])], .keep [3, 6, 7, 8], .cut [(1, [3, 6, 7, 8, 9])], .cut [(3, [3, 5, 6, 7, 8])], .cut [(3, [3, 5, 6, 7, 8, 14])], .cut [(2, [2])], .cut [(2, [3, 6, 7, 8])], .cut [(2, [2])]] true = some Tryd.fn44 := by kernel_rfl
theorem Tryd.fn45_ok : cfunL Tryd.prog Tryd.f45 [.cut [(1, [0, 1])], .cut [(3, [0, 1, 5])], .cut [(3, [0, 1, 5, 6])], .cut [(1, [0, 1, 6, 11])], .cut [(1, [12])], .cut [(1, [4])], .cut [(1, [4])], .cut [(1, [0, 1, 13])], .cut [(1, [4])], .cut [(3, [0, 1, 16])], .cut [(1, [4])], .cut [(3, [19])], .cut [(1, [4])], .cut [(1, [4])]] true = some Tryd.fn45 := by kernel_rfl
theorem Tryd.fn49_ok : cfunL Tryd.prog Tryd.f49 [.cut [(2, [0, 1])], .cut [(2, [0, 1])], .cut [(10, [1])], .cut [(4, [4, 5])]] false = some Tryd.fn49 := by kernel_rfl
theorem Tryd.fn50_ok : cfunL Tryd.prog Tryd.f50 [.cut [(1, [0])], .keep [2]] false = some Tryd.fn50 := by kernel_rfl
theorem Tryd.fn51_ok : cfunL Tryd.prog Tryd.f51 [.cut [(1, [0, 1])], .cut [(2, [0, 1])], .cut [(10, [14, 16]), (1, [])], .cut [(1, [4])]] false = some Tryd.fn51 := by kernel_rfl
theorem Tryd.fn52_ok : cfunL Tryd.prog Tryd.f52 [.cut [(1, [0])], .cut [(10, [0, 12]), (5, [2])]] true = some Tryd.fn52 := by kernel_rfl
theorem Tryd.fn53_ok : cfunL Tryd.prog Tryd.f53 [.cut [(1, [0])], .cut [(2, [0, 4])], .cut [(5, [2])], .keep [2]] true = some Tryd.fn53 := by kernel_rfl
theorem Tryd.fn55_ok : cfunL Tryd.prog Tryd.f55 [.cut [(2, [0])], .cut [(3, [0, 6])], .cut [(2, [2, 3])], .cut [(2, [0, 8])], .cut [(2, [0, 8, 9])], .cut [(2, [0, 8, 9])], .cut [(4, [2, 3])], .cut [(2, [0, 8, 14])], .cut [(2, [2, 3])], .cut [(2, [0, 16])], .cut [(10, [0, 27]), (5, [0, 32])], .cut [(2, [2, 3])], .keep [2, 3], .cut [(2, [2, 3])]] true = some Tryd.fn55 := by kernel_rfl
theorem Tryd.fn56_ok : cfunL Tryd.prog Tryd.f56 [.cut [(1, [0, 1])], .cut [(4, [4])]] true = some Tryd.fn56 := by kernel_rfl
theorem Tryd.fn58_ok : cfunL Tryd.prog Tryd.f58 [.cut [(3, [0, 1])], .cut [(10, [0, 1, 20])], .cut [(3, [4, 5, 6])], .cut [(2, [0, 1, 7])], .cut [(3, [0, 7, 8])], .keep [0, 7, 8], .cut [(4, [0, 7, 8, 27])], .cut [(4, [0, 7, 8, 9])], .cut [(2, [0, 7, 8, 9, 32])], .cut [(7, [4, 5, 6])], .cut [(6, [0, 7, 8, 9, 42])], .cut [(3, [4, 5, 6])], .cut [(2, [0, 7, 8, 9, 44])], .cut [(5, [0, 7, 8])], .cut [(3, [0, 7, 8])], .cut [(5, [0, 7, 8, 55])], .cut [(3, [4, 5, 6])], .cut [(5, [0, 7, 8, 10])], .cut [(6, [0, 7, 8, 10, 65])], .cut [(5, [0, 7, 8])], .cut [(3, [0, 7, 8])], .cut [(2, [0, 7, 8, 10, 73])], .cut [(4, [0, 7, 8])], .cut [(3, [0, 7, 8])], .cut [(10, [0, 7, 8, 88]), (10, [0, 7, 8, 96, 97, 98]), (5, [0, 7, 8, 103])], .keep [0, 7, 8], .cut [(3, [0, 7, 8])], .cut [(3, [4, 5, 6])], .cut [(3, [4, 5, 6])]] true = some Tryd.fn58 := by kernel_rfl
theorem Tryd.fn59_ok : cfunL Tryd.prog Tryd.f59 [.cut [(1, [0])], .cut [(4, [2])]] true = some Tryd.fn59 := by kernel_rfl
theorem Tryd.fn62_ok : cfunL Tryd.prog Tryd.f62 [.cut [(5, [0, 6])], .cut [(8, [])], .cut [(6, [19])], .cut [(1, [])]] false = some Tryd.fn62 := by kernel_rfl
theorem Tryd.fn67_ok : cfunL Tryd.prog Tryd.f67 [.cut [(1, [0])], .cut [(7, [0, 3])], .cut [(4, [2])], .cut [(7, [0, 13])], .cut [(5, [2])], .cut [(1, [2])]] true = some Tryd.fn67 := by kernel_rfl
theorem Tryd.fn68_ok : cfunL Tryd.prog Tryd.f68 [.cut [(1, [0, 1])], .cut [(3, [0, 1, 7])], .cut [(5, [4])], .cut [(2, [4])]] true = some Tryd.fn68 := by kernel_rfl
theorem Tryd.fn71_ok : cfunL Tryd.prog Tryd.f71 [.cut [(1, [0])], .cut [(2, [0, 4])], .cut [(4, [2])], .cut [(6, [0, 13])], .cut [(5, [2])], .cut [(1, [2])]] true = some Tryd.fn71 := by kernel_rfl
theorem Tryd.fn83_ok : cfunL Tryd.prog Tryd.f83 [.cut [(1, [0, 1])], .cut [(10, [1, 10, 14]), (4, [4])]] true = some Tryd.fn83 := by kernel_rfl
theorem Tryd.fn89_ok : cfunL Tryd.prog Tryd.f89 [.cut [(1, [0])], .cut [(7, [2])]] true = some Tryd.fn89 := by kernel_rfl
def Tryd.tab : List (Nat × AFun) :=
  [(3, Tryd.fn3), (4, Tryd.fn4), (5, Tryd.fn5), (6, Tryd.fn6), (7, Tryd.fn7), (8, Tryd.fn8), (9, Tryd.fn9), (10, Tryd.fn10), (11, Tryd.fn11), (12, Tryd.fn12), (13, Tryd.fn13), (14, Tryd.fn14), (15, Tryd.fn15), (16, Tryd.fn16), (17, Tryd.fn17), (18, Tryd.fn18), (19, Tryd.fn19), (20, Tryd.fn20), (21, Tryd.fn21), (22, Tryd.fn22), (23, Tryd.fn23), (24, Tryd.fn24), (25, Tryd.fn25), (26, Tryd.fn26), (27, Tryd.fn27), (28, Tryd.fn28), (29, Tryd.fn29), (32, Tryd.fn32), (33, Tryd.fn33), (34, Tryd.fn34), (35, Tryd.fn35), (37, Tryd.fn37), (38, Tryd.fn38), (39, Tryd.fn39), (40, Tryd.fn40), (41, Tryd.fn41), (42, Tryd.fn42), (43, Tryd.fn43), (44, Tryd.fn44), (45, Tryd.fn45), (49, Tryd.fn49), (50, Tryd.fn50), (51, Tryd.fn51), (52, Tryd.fn52), (53, Tryd.fn53), (55, Tryd.fn55), (56, Tryd.fn56), (58, Tryd.fn58), (59, Tryd.fn59), (62, Tryd.fn62), (67, Tryd.fn67), (68, Tryd.fn68), (71, Tryd.fn71), (83, Tryd.fn83), (89, Tryd.fn89)]
theorem Tryd.tabOk : TabOk Tryd.prog (lk Tryd.tab) :=
  tabOk_cons Tryd.func3 _ _ Tryd.fn3_ok <|
  tabOk_cons Tryd.func4 _ _ Tryd.fn4_ok <|
  tabOk_cons Tryd.func5 _ _ Tryd.fn5_ok <|
  tabOk_cons Tryd.func6 _ _ Tryd.fn6_ok <|
  tabOk_cons Tryd.func7 _ _ Tryd.fn7_ok <|
  tabOk_cons Tryd.func8 _ _ Tryd.fn8_ok <|
  tabOk_cons Tryd.func9 _ _ Tryd.fn9_ok <|
  tabOk_cons Tryd.func10 _ _ Tryd.fn10_ok <|
  tabOk_cons Tryd.func11 _ _ Tryd.fn11_ok <|
  tabOk_cons Tryd.func12 _ _ Tryd.fn12_ok <|
  tabOk_cons Tryd.func13 _ _ Tryd.fn13_ok <|
  tabOk_cons Tryd.func14 _ _ Tryd.fn14_ok <|
  tabOk_cons Tryd.func15 _ _ Tryd.fn15_ok <|
  tabOk_cons Tryd.func16 _ _ Tryd.fn16_ok <|
  tabOk_cons Tryd.func17 _ _ Tryd.fn17_ok <|
  tabOk_cons Tryd.func18 _ _ Tryd.fn18_ok <|
  tabOk_cons Tryd.func19 _ _ Tryd.fn19_ok <|
  tabOk_cons Tryd.func20 _ _ Tryd.fn20_ok <|
  tabOk_cons Tryd.func21 _ _ Tryd.fn21_ok <|
  tabOk_cons Tryd.func22 _ _ Tryd.fn22_ok <|
  tabOk_cons Tryd.func23 _ _ Tryd.fn23_ok <|
  tabOk_cons Tryd.func24 _ _ Tryd.fn24_ok <|
  tabOk_cons Tryd.func25 _ _ Tryd.fn25_ok <|
  tabOk_cons Tryd.func26 _ _ Tryd.fn26_ok <|
  tabOk_cons Tryd.func27 _ _ Tryd.fn27_ok <|
  tabOk_cons Tryd.func28 _ _ Tryd.fn28_ok <|
  tabOk_cons Tryd.func29 _ _ Tryd.fn29_ok <|
  tabOk_cons Tryd.func32 _ _ Tryd.fn32_ok <|
  tabOk_cons Tryd.func33 _ _ Tryd.fn33_ok <|
  tabOk_cons Tryd.func34 _ _ Tryd.fn34_ok <|
  tabOk_cons Tryd.func35 _ _ Tryd.fn35_ok <|
  tabOk_cons Tryd.func37 _ _ Tryd.fn37_ok <|
  tabOk_cons Tryd.func38 _ _ Tryd.fn38_ok <|
  tabOk_cons Tryd.func39 _ _ Tryd.fn39_ok <|
  tabOk_cons Tryd.func40 _ _ Tryd.fn40_ok <|
  tabOk_cons Tryd.func41 _ _ Tryd.fn41_ok <|
  tabOk_cons Tryd.func42 _ _ Tryd.fn42_ok <|
  tabOk_cons Tryd.func43 _ _ Tryd.fn43_ok <|
  tabOk_cons Tryd.func44 _ _ Tryd.fn44_ok <|
  tabOk_cons Tryd.func45 _ _ Tryd.fn45_ok <|
  tabOk_cons Tryd.func49 _ _ Tryd.fn49_ok <|
  tabOk_cons Tryd.func50 _ _ Tryd.fn50_ok <|
  tabOk_cons Tryd.func51 _ _ Tryd.fn51_ok <|
  tabOk_cons Tryd.func52 _ _ Tryd.fn52_ok <|
  tabOk_cons Tryd.func53 _ _ Tryd.fn53_ok <|
  tabOk_cons Tryd.func55 _ _ Tryd.fn55_ok <|
  tabOk_cons Tryd.func56 _ _ Tryd.fn56_ok <|
  tabOk_cons Tryd.func58 _ _ Tryd.fn58_ok <|
  tabOk_cons Tryd.func59 _ _ Tryd.fn59_ok <|
  tabOk_cons Tryd.func62 _ _ Tryd.fn62_ok <|
  tabOk_cons Tryd.func67 _ _ Tryd.fn67_ok <|
  tabOk_cons Tryd.func68 _ _ Tryd.fn68_ok <|
  tabOk_cons Tryd.func71 _ _ Tryd.fn71_ok <|
  tabOk_cons Tryd.func83 _ _ Tryd.fn83_ok <|
  tabOk_cons Tryd.func89 _ _ Tryd.fn89_ok <|
  tabOk_nil _
end Go.Am
