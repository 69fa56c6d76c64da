/-
The functions of this cut as the abstract machine has them, and that they are what the compiler makes of the program's. Written by a program. Conditions: none.
-/
import Derived.Test.YtjpppajbhpbkiaaDoorMb
import Derived.Test.YtjpppajbhpbkiaaDoorProg
import Derived.KernelRfl
namespace Go.Am
open Go.Proofs

theorem tabOk_nil (P : Program) : TabOk P (lk []) := fun f fn h => by cases h
theorem tabOk_cons {P : Program} {i : Nat} {fn : AFun} {l : List (Nat × AFun)} {F : Func} (hF : P.funcs[i]? = some F) (h : List Hint) (v : Bool) (hc : cfunL P F h v = some fn) (hl : TabOk P (lk l)) : TabOk P (lk ((i, fn) :: l)) := fun f fn' hf => by
  by_cases e : i = f
  · subst e
    simp [lk] at hf
    subst hf
    exact ⟨F, h, v, hF, hc⟩
  · simp [lk, e] at hf
    exact hl f fn' hf

/-! signalbench/signalbenchlaw55.CompareKeys -/
def Tryd.fn3_r0 : List AIns :=
   [⟨(some 1), .box 23 (.t 0), .none⟩,
    ⟨(some 2), .mov (.c (.bool false)), .none⟩]
def Tryd.fn3_r1a : List DIns :=
   ⟨⟨(some 9), .call 9 [], (some (8, true))⟩, [5, 4, 3, 1, 0, 2], [7, 8], 2⟩ ::
   ⟨⟨(some 10), .pick (.t 8) (.t 9) (.c (.bool false)), .none⟩, [5, 6, 4, 3, 1, 0, 2], [8], 0⟩ ::
   ⟨⟨(some 2), .mov (.t 10), .none⟩, [7, 6, 0, 1, 2, 3, 4, 5], [], 0⟩ ::
   []
def Tryd.fn3_r1 : List DIns :=
   ⟨⟨(some 3), .ldn 7 (.t 1), .none⟩, [], [1, 3, 4, 5, 6, 7, 8], 1⟩ ::
   ⟨⟨(some 4), .call 7 [(.t 3)], .none⟩, [0], [3, 4, 5, 6, 7, 8], 1⟩ ::
   ⟨⟨(some 5), .ldn 7 (.t 1), .none⟩, [], [3, 4, 5, 6, 7, 8], 1⟩ ::
   ⟨⟨(some 6), .call 8 [(.t 5)], .none⟩, [2, 1, 0], [4, 5, 6, 7, 8], 2⟩ ::
   ⟨⟨(some 7), .bin .eql (.t 4) (.t 6), .none⟩, [1, 3, 0, 2], [5, 6, 7, 8], 0⟩ ::
   ⟨⟨(some 8), .mov (.t 7), .none⟩, [4, 3, 1, 0, 2], [6, 7, 8], 0⟩ ::
   Tryd.fn3_r1a
def Tryd.fn3 : AFun :=
 ⟨11, [.tmp 2],
 (.seq (.seq (.reg Tryd.fn3_r0)
  (.trim [1]))
 (.seq (.seq (.regd Tryd.fn3_r1)
  (.trim [2]))
 .ret)), true⟩
/-! signalbench/signalbenchlaw55.CompareDiffs -/
def Tryd.fn4_r0 : List AIns :=
   [⟨(some 6), .mov (.c (.bool false)), .none⟩]
def Tryd.fn4_r1 : List AIns :=
   [⟨(some 11), .mov (.t 0), .none⟩,
     ⟨(some 12), .lenl (.t 11), .none⟩,
     ⟨(some 13), .bin .gtr (.t 12) (.c (.int .i64 60)), .none⟩,
     ⟨(some 14), .mov (.t 13), .none⟩,
     ⟨(some 15), .mov (.t 1), (some (14, false))⟩,
     ⟨(some 16), .lenl (.t 15), (some (14, false))⟩,
     ⟨(some 17), .bin .gtr (.t 16) (.c (.int .i64 60)), (some (14, false))⟩,
     ⟨(some 18), .pick (.t 14) (.c (.bool true)) (.t 17), .none⟩]
def Tryd.fn4_r2 : List AIns :=
   [⟨(some 19), .call 9 [], .none⟩,
      ⟨(some 6), .mov (.t 19), .none⟩]
def Tryd.fn4_r3 : List AIns :=
   [⟨(some 21), .mov (.t 0), .none⟩,
    ⟨(some 22), .mov (.t 1), .none⟩,
    ⟨(some 23), .mov (.t 2), .none⟩,
    ⟨(some 24), .call 10 [(.t 21), (.t 22), (.t 23)], .none⟩,
    ⟨(some 20), .mov (.t 24), .none⟩,
    ⟨(some 25), .ext 0 (.t 20), .none⟩,
    ⟨(some 26), .ext 1 (.t 20), .none⟩,
    ⟨(some 7), .mov (.t 25), .none⟩,
    ⟨(some 8), .mov (.t 26), .none⟩]
def Tryd.fn4_r4 : List AIns :=
   [⟨(some 28), .mov (.t 0), .none⟩,
    ⟨(some 29), .mov (.t 1), .none⟩,
    ⟨(some 30), .mov (.t 2), .none⟩,
    ⟨(some 31), .call 11 [(.t 28), (.t 29), (.t 30)], .none⟩,
    ⟨(some 27), .mov (.t 31), .none⟩,
    ⟨(some 32), .ext 0 (.t 27), .none⟩,
    ⟨(some 33), .ext 1 (.t 27), .none⟩,
    ⟨(some 9), .mov (.t 32), .none⟩,
    ⟨(some 10), .mov (.t 33), .none⟩]
def Tryd.fn4_r5 : List AIns :=
   [⟨(some 34), .mov (.t 8), .none⟩,
     ⟨(some 35), .mov (.t 10), .none⟩,
     ⟨(some 36), .bin .eql (.t 34) (.t 35), .none⟩,
     ⟨(some 37), .mov (.t 36), .none⟩,
     ⟨(some 38), .mov (.t 7), (some (37, true))⟩,
     ⟨(some 39), .mov (.t 9), (some (37, true))⟩,
     ⟨(some 40), .call 12 [(.t 38), (.t 39)], (some (37, true))⟩,
     ⟨(some 41), .pick (.t 37) (.t 40) (.c (.bool false)), .none⟩,
     ⟨(some 42), .mov (.t 41), .none⟩,
     ⟨(some 43), .mov (.t 0), (some (42, true))⟩]
def Tryd.fn4_r6 : List AIns :=
   [⟨(some 44), .mov (.t 1), (some (42, true))⟩,
     ⟨(some 45), .mov (.t 2), (some (42, true))⟩,
     ⟨(some 46), .call 13 [(.t 43), (.t 44), (.t 45)], (some (42, true))⟩,
     ⟨(some 47), .mov (.t 0), (some (42, true))⟩,
     ⟨(some 48), .mov (.t 1), (some (42, true))⟩,
     ⟨(some 49), .mov (.t 2), (some (42, true))⟩,
     ⟨(some 50), .call 14 [(.t 47), (.t 48), (.t 49)], (some (42, true))⟩,
     ⟨(some 51), .eqv false false .bool (.t 46) (.t 50), (some (42, true))⟩,
     ⟨(some 52), .pick (.t 42) (.t 51) (.c (.bool false)), .none⟩,
     ⟨(some 53), .mov (.t 52), .none⟩]
def Tryd.fn4_r7 : List AIns :=
   [⟨(some 54), .call 9 [], (some (53, true))⟩,
    ⟨(some 55), .pick (.t 53) (.t 54) (.c (.bool false)), .none⟩,
    ⟨(some 6), .mov (.t 55), .none⟩]
def Tryd.fn4 : AFun :=
 ⟨56, [.tmp 6],
 (.seq (.seq (.reg Tryd.fn4_r0)
  (.trim [0, 1, 2]))
 (.seq (.seq (.seq (.reg Tryd.fn4_r1)
   (.trim [0, 1, 2, 18]))
  (.cond (.t 18)
   (.seq (.seq (.reg Tryd.fn4_r2)
    (.trim [6]))
   .ret)
   .skip))
 (.seq (.seq (.reg Tryd.fn4_r3)
  (.trim [0, 1, 2, 7, 8]))
 (.seq (.seq (.reg Tryd.fn4_r4)
  (.trim [0, 1, 2, 7, 8, 9, 10]))
 (.seq (.seq (.seq (.reg Tryd.fn4_r5)
   (.trim [0, 1, 2, 42, 43]))
  (.seq (.seq (.reg Tryd.fn4_r6)
   (.trim [53]))
  (.seq (.reg Tryd.fn4_r7)
  (.trim [6]))))
 .ret))))), true⟩
/-! signalbench/signalbenchlaw55.CompareCounts -/
def Tryd.fn5_r0 : List AIns :=
   [⟨(some 8), .mov (.c (.bool false)), .none⟩]
def Tryd.fn5_r1 : List AIns :=
   [⟨(some 27), .mov (.t 0), .none⟩,
      ⟨(some 28), .lenl (.t 27), .none⟩,
      ⟨(some 29), .bin .gtr (.t 28) (.c (.int .i64 60)), .none⟩,
      ⟨(some 30), .mov (.t 29), .none⟩,
      ⟨(some 31), .mov (.t 1), (some (30, false))⟩,
      ⟨(some 32), .lenl (.t 31), (some (30, false))⟩,
      ⟨(some 33), .bin .gtr (.t 32) (.c (.int .i64 60)), (some (30, false))⟩,
      ⟨(some 34), .pick (.t 30) (.c (.bool true)) (.t 33), .none⟩,
      ⟨(some 35), .mov (.t 34), .none⟩,
      ⟨(some 36), .mov (.t 2), (some (35, false))⟩]
def Tryd.fn5_r2 : List AIns :=
   [⟨(some 37), .bin .lss (.t 36) (.c (.int .i64 0)), (some (35, false))⟩,
     ⟨(some 38), .pick (.t 35) (.c (.bool true)) (.t 37), .none⟩,
     ⟨(some 39), .mov (.t 38), .none⟩,
     ⟨(some 40), .mov (.t 3), (some (39, false))⟩,
     ⟨(some 41), .mov (.t 2), (some (39, false))⟩,
     ⟨(some 42), .bin .lss (.t 40) (.t 41), (some (39, false))⟩,
     ⟨(some 43), .pick (.t 39) (.c (.bool true)) (.t 42), .none⟩]
def Tryd.fn5_r3 : List AIns :=
   [⟨(some 44), .call 9 [], .none⟩,
      ⟨(some 8), .mov (.t 44), .none⟩]
def Tryd.fn5_r4 : List AIns :=
   [⟨(some 46), .mov (.t 0), .none⟩,
    ⟨(some 47), .mov (.t 1), .none⟩,
    ⟨(some 48), .mov (.t 2), .none⟩,
    ⟨(some 49), .call 10 [(.t 46), (.t 47), (.t 48)], .none⟩,
    ⟨(some 45), .mov (.t 49), .none⟩,
    ⟨(some 50), .ext 0 (.t 45), .none⟩,
    ⟨(some 51), .ext 1 (.t 45), .none⟩,
    ⟨(some 9), .mov (.t 50), .none⟩,
    ⟨(some 10), .mov (.t 51), .none⟩]
def Tryd.fn5_r5 : List AIns :=
   [⟨(some 53), .mov (.t 0), .none⟩,
    ⟨(some 54), .mov (.t 1), .none⟩,
    ⟨(some 55), .mov (.t 3), .none⟩,
    ⟨(some 56), .call 10 [(.t 53), (.t 54), (.t 55)], .none⟩,
    ⟨(some 52), .mov (.t 56), .none⟩,
    ⟨(some 57), .ext 0 (.t 52), .none⟩,
    ⟨(some 58), .ext 1 (.t 52), .none⟩,
    ⟨(some 11), .mov (.t 57), .none⟩,
    ⟨(some 12), .mov (.t 58), .none⟩]
def Tryd.fn5_r6 : List AIns :=
   [⟨(some 59), .mov (.t 10), .none⟩,
     ⟨(some 60), .mov (.t 12), .none⟩,
     ⟨(some 61), .bin .neq (.t 59) (.t 60), .none⟩]
def Tryd.fn5_r7 : List AIns :=
   [⟨(some 8), .mov (.c (.bool false)), .none⟩]
def Tryd.fn5_r8 : List AIns :=
   [⟨(some 62), .mov (.t 10), .none⟩,
     ⟨(some 63), .bin .neq (.t 62) (.c (.int .i64 0)), .none⟩]
def Tryd.fn5_r9 : List AIns :=
   [⟨(some 64), .mov (.t 10), .none⟩,
      ⟨(some 65), .bin .eql (.t 64) (.c (.int .i64 1)), .none⟩,
      ⟨(some 66), .mov (.t 65), .none⟩,
      ⟨(some 67), .call 9 [], (some (66, true))⟩,
      ⟨(some 68), .pick (.t 66) (.t 67) (.c (.bool false)), .none⟩,
      ⟨(some 8), .mov (.t 68), .none⟩]
def Tryd.fn5_r10 : List AIns :=
   [⟨(some 69), .bsl 9 1 0 [(.str [])] [], .none⟩,
    ⟨(some 13), .mov (.t 69), .none⟩]
def Tryd.fn5_r11 : List AIns :=
   [⟨(some 70), .bsl 9 1 0 [(.str [])] [], .none⟩,
    ⟨(some 14), .mov (.t 70), .none⟩]
def Tryd.fn5_r12 : List AIns :=
   [⟨(some 15), .mov (.c (.int .i64 0)), .none⟩]
def Tryd.fn5_r13 : List AIns :=
   [⟨(some 71), .mov (.t 15), .none⟩,
        ⟨(some 72), .mov (.t 0), .none⟩,
        ⟨(some 73), .lenl (.t 72), .none⟩,
        ⟨(some 74), .bin .lss (.t 71) (.t 73), .none⟩]
def Tryd.fn5_r14 : List AIns :=
   [⟨(some 77), .mov (.t 13), .none⟩,
        ⟨(some 78), .mov (.t 0), .none⟩,
        ⟨(some 79), .mov (.t 15), .none⟩,
        ⟨(some 80), .ia 7 (.t 78) (.t 79), .none⟩,
        ⟨(some 81), .ldn 7 (.t 80), .none⟩,
        ⟨(some 82), .call 7 [(.t 81)], .none⟩,
        ⟨(some 83), .bsl 9 1 1 [(.str [])] [(0, 1, (.t 82))], .none⟩,
        ⟨(some 84), .app 9 1 16 (.t 77) (.t 83), .none⟩,
        ⟨(some 13), .mov (.t 84), .none⟩]
def Tryd.fn5_r15 : List AIns :=
   [⟨(some 75), .mov (.t 15), .none⟩,
      ⟨(some 76), .bin .add (.t 75) (.c (.int .i64 1)), .none⟩,
      ⟨(some 15), .mov (.t 76), .none⟩]
def Tryd.fn5_r16 : List AIns :=
   [⟨(some 16), .mov (.c (.int .i64 0)), .none⟩]
def Tryd.fn5_r17 : List AIns :=
   [⟨(some 85), .mov (.t 16), .none⟩,
        ⟨(some 86), .mov (.t 1), .none⟩,
        ⟨(some 87), .lenl (.t 86), .none⟩,
        ⟨(some 88), .bin .lss (.t 85) (.t 87), .none⟩]
def Tryd.fn5_r18 : List AIns :=
   [⟨(some 91), .mov (.t 14), .none⟩,
        ⟨(some 92), .mov (.t 1), .none⟩,
        ⟨(some 93), .mov (.t 16), .none⟩,
        ⟨(some 94), .ia 7 (.t 92) (.t 93), .none⟩,
        ⟨(some 95), .ldn 7 (.t 94), .none⟩,
        ⟨(some 96), .call 7 [(.t 95)], .none⟩,
        ⟨(some 97), .bsl 9 1 1 [(.str [])] [(0, 1, (.t 96))], .none⟩,
        ⟨(some 98), .app 9 1 16 (.t 91) (.t 97), .none⟩,
        ⟨(some 14), .mov (.t 98), .none⟩]
def Tryd.fn5_r19 : List AIns :=
   [⟨(some 89), .mov (.t 16), .none⟩,
      ⟨(some 90), .bin .add (.t 89) (.c (.int .i64 1)), .none⟩,
      ⟨(some 16), .mov (.t 90), .none⟩]
def Tryd.fn5_r20 : List AIns :=
   [⟨(some 100), .mov (.t 13), .none⟩,
    ⟨(some 101), .mov (.t 14), .none⟩,
    ⟨(some 102), .call 15 [(.t 100), (.t 101)], .none⟩,
    ⟨(some 99), .mov (.t 102), .none⟩,
    ⟨(some 103), .ext 0 (.t 99), .none⟩,
    ⟨(some 104), .ext 1 (.t 99), .none⟩,
    ⟨(some 17), .mov (.t 103), .none⟩,
    ⟨(some 18), .mov (.t 104), .none⟩]
def Tryd.fn5_r21 : List AIns :=
   [⟨(some 106), .mov (.t 0), .none⟩,
     ⟨(some 107), .mov (.t 1), .none⟩,
     ⟨(some 108), .mov (.t 9), .none⟩,
     ⟨(some 109), .call 16 [(.t 106), (.t 107), (.t 108)], .none⟩,
     ⟨(some 105), .mov (.t 109), .none⟩,
     ⟨(some 110), .ext 0 (.t 105), .none⟩,
     ⟨(some 111), .ext 1 (.t 105), .none⟩,
     ⟨(some 112), .ext 2 (.t 105), .none⟩,
     ⟨(some 113), .ext 3 (.t 105), .none⟩,
     ⟨(some 19), .mov (.t 110), .none⟩]
def Tryd.fn5_r22 : List AIns :=
   [⟨(some 20), .mov (.t 111), .none⟩,
    ⟨(some 21), .mov (.t 112), .none⟩,
    ⟨(some 22), .mov (.t 113), .none⟩]
def Tryd.fn5_r23 : List AIns :=
   [⟨(some 115), .mov (.t 0), .none⟩,
     ⟨(some 116), .mov (.t 1), .none⟩,
     ⟨(some 117), .mov (.t 11), .none⟩,
     ⟨(some 118), .call 16 [(.t 115), (.t 116), (.t 117)], .none⟩,
     ⟨(some 114), .mov (.t 118), .none⟩,
     ⟨(some 119), .ext 0 (.t 114), .none⟩,
     ⟨(some 120), .ext 1 (.t 114), .none⟩,
     ⟨(some 121), .ext 2 (.t 114), .none⟩,
     ⟨(some 122), .ext 3 (.t 114), .none⟩,
     ⟨(some 23), .mov (.t 119), .none⟩]
def Tryd.fn5_r24 : List AIns :=
   [⟨(some 24), .mov (.t 120), .none⟩,
    ⟨(some 25), .mov (.t 121), .none⟩,
    ⟨(some 26), .mov (.t 122), .none⟩]
def Tryd.fn5_r25 : List AIns :=
   [⟨(some 123), .mov (.t 18), .none⟩,
     ⟨(some 124), .bin .eql (.t 123) (.c (.int .i64 0)), .none⟩,
     ⟨(some 125), .mov (.t 124), .none⟩,
     ⟨(some 126), .mov (.t 22), (some (125, true))⟩,
     ⟨(some 127), .pick (.t 125) (.t 126) (.c (.bool false)), .none⟩,
     ⟨(some 128), .mov (.t 127), .none⟩,
     ⟨(some 129), .mov (.t 26), (some (128, true))⟩,
     ⟨(some 130), .pick (.t 128) (.t 129) (.c (.bool false)), .none⟩,
     ⟨(some 131), .mov (.t 130), .none⟩,
     ⟨(some 132), .mov (.t 19), (some (131, true))⟩]
def Tryd.fn5_r26 : List AIns :=
   [⟨(some 133), .mov (.t 20), (some (131, true))⟩,
     ⟨(some 134), .bin .add (.t 132) (.t 133), (some (131, true))⟩,
     ⟨(some 135), .mov (.t 17), (some (131, true))⟩,
     ⟨(some 136), .bin .eql (.t 134) (.t 135), (some (131, true))⟩,
     ⟨(some 137), .pick (.t 131) (.t 136) (.c (.bool false)), .none⟩,
     ⟨(some 138), .mov (.t 137), .none⟩,
     ⟨(some 139), .mov (.t 23), (some (138, true))⟩,
     ⟨(some 140), .mov (.t 19), (some (138, true))⟩,
     ⟨(some 141), .bin .eql (.t 139) (.t 140), (some (138, true))⟩,
     ⟨(some 142), .pick (.t 138) (.t 141) (.c (.bool false)), .none⟩]
def Tryd.fn5_r27 : List AIns :=
   [⟨(some 143), .mov (.t 142), .none⟩,
     ⟨(some 144), .mov (.t 24), (some (143, true))⟩,
     ⟨(some 145), .mov (.t 20), (some (143, true))⟩,
     ⟨(some 146), .bin .eql (.t 144) (.t 145), (some (143, true))⟩,
     ⟨(some 147), .pick (.t 143) (.t 146) (.c (.bool false)), .none⟩,
     ⟨(some 148), .mov (.t 147), .none⟩,
     ⟨(some 149), .mov (.t 25), (some (148, true))⟩,
     ⟨(some 150), .mov (.t 21), (some (148, true))⟩,
     ⟨(some 151), .bin .leq (.t 149) (.t 150), (some (148, true))⟩,
     ⟨(some 152), .pick (.t 148) (.t 151) (.c (.bool false)), .none⟩]
def Tryd.fn5_r28 : List AIns :=
   [⟨(some 153), .mov (.t 152), .none⟩,
     ⟨(some 154), .mov (.t 0), (some (153, true))⟩,
     ⟨(some 155), .lenl (.t 154), (some (153, true))⟩,
     ⟨(some 156), .mov (.t 19), (some (153, true))⟩,
     ⟨(some 157), .bin .sub (.t 155) (.t 156), (some (153, true))⟩,
     ⟨(some 158), .mov (.t 1), (some (153, true))⟩,
     ⟨(some 159), .lenl (.t 158), (some (153, true))⟩,
     ⟨(some 160), .mov (.t 20), (some (153, true))⟩,
     ⟨(some 161), .bin .sub (.t 159) (.t 160), (some (153, true))⟩,
     ⟨(some 162), .bin .eql (.t 157) (.t 161), (some (153, true))⟩]
def Tryd.fn5_r29 : List AIns :=
   [⟨(some 163), .pick (.t 153) (.t 162) (.c (.bool false)), .none⟩,
    ⟨(some 164), .mov (.t 163), .none⟩,
    ⟨(some 165), .call 9 [], (some (164, true))⟩,
    ⟨(some 166), .pick (.t 164) (.t 165) (.c (.bool false)), .none⟩,
    ⟨(some 8), .mov (.t 166), .none⟩]
def Tryd.fn5_l0 : ACode :=
 (.seq (.seq (.seq (.reg Tryd.fn5_r17)
      (.trim [0, 1, 9, 11, 13, 14, 16, 88]))
     (.cond (.t 88)
      .skip
      (.exit 2)))
    (.seq (.block 3
      (.seq (.reg Tryd.fn5_r18)
      (.trim [0, 1, 9, 11, 13, 14, 16])))
    (.seq (.reg Tryd.fn5_r19)
    (.trim [0, 1, 9, 11, 13, 14, 16]))))
def Tryd.fn5_l1 : ACode :=
 (.seq (.seq (.seq (.reg Tryd.fn5_r13)
      (.trim [0, 1, 9, 11, 13, 14, 15, 74]))
     (.cond (.t 74)
      .skip
      (.exit 0)))
    (.seq (.block 1
      (.seq (.reg Tryd.fn5_r14)
      (.trim [0, 1, 9, 11, 13, 14, 15])))
    (.seq (.reg Tryd.fn5_r15)
    (.trim [0, 1, 9, 11, 13, 14, 15]))))
def Tryd.fn5 : AFun :=
 ⟨167, [.tmp 8],
 (.seq (.seq (.reg Tryd.fn5_r0)
  (.trim [0, 1, 2, 3]))
 (.seq (.seq (.seq (.seq (.reg Tryd.fn5_r1)
    (.trim [0, 1, 2, 3, 35, 36]))
   (.seq (.reg Tryd.fn5_r2)
   (.trim [0, 1, 2, 3, 43])))
  (.cond (.t 43)
   (.seq (.seq (.reg Tryd.fn5_r3)
    (.trim [8]))
   .ret)
   .skip))
 (.seq (.seq (.reg Tryd.fn5_r4)
  (.trim [0, 1, 3, 9, 10]))
 (.seq (.seq (.reg Tryd.fn5_r5)
  (.trim [0, 1, 9, 10, 11, 12]))
 (.seq (.seq (.seq (.reg Tryd.fn5_r6)
   (.trim [0, 1, 9, 10, 11, 61]))
  (.cond (.t 61)
   (.seq (.seq (.reg Tryd.fn5_r7)
    (.trim [8]))
   .ret)
   .skip))
 (.seq (.seq (.seq (.reg Tryd.fn5_r8)
   (.trim [0, 1, 9, 10, 11, 63]))
  (.cond (.t 63)
   (.seq (.seq (.reg Tryd.fn5_r9)
    (.trim [8]))
   .ret)
   .skip))
 (.seq (.seq (.reg Tryd.fn5_r10)
  (.trim [0, 1, 9, 11, 13]))
 (.seq (.seq (.reg Tryd.fn5_r11)
  (.trim [0, 1, 9, 11, 13, 14]))
 (.seq (.seq (.seq (.reg Tryd.fn5_r12)
   (.trim [0, 1, 9, 11, 13, 14, 15]))
  (.block 0
   (.loop (some [0, 1, 9, 11, 13, 14, 15])
    Tryd.fn5_l1)))
 (.seq (.seq (.seq (.reg Tryd.fn5_r16)
   (.trim [0, 1, 9, 11, 13, 14, 16]))
  (.block 2
   (.loop (some [0, 1, 9, 11, 13, 14, 16])
    Tryd.fn5_l0)))
 (.seq (.seq (.reg Tryd.fn5_r20)
  (.trim [0, 1, 9, 11, 17, 18]))
 (.seq (.seq (.seq (.reg Tryd.fn5_r21)
   (.trim [0, 1, 11, 17, 18, 19, 111, 112, 113]))
  (.seq (.reg Tryd.fn5_r22)
  (.trim [0, 1, 11, 17, 18, 19, 20, 21, 22])))
 (.seq (.seq (.seq (.reg Tryd.fn5_r23)
   (.trim [0, 1, 17, 18, 19, 20, 21, 22, 23, 120, 121, 122]))
  (.seq (.reg Tryd.fn5_r24)
  (.trim [0, 1, 17, 18, 19, 20, 21, 22, 23, 24, 25, 26])))
 (.seq (.seq (.seq (.reg Tryd.fn5_r25)
   (.trim [0, 1, 17, 19, 20, 21, 23, 24, 25, 131, 132]))
  (.seq (.seq (.reg Tryd.fn5_r26)
   (.trim [0, 1, 19, 20, 21, 24, 25, 142]))
  (.seq (.seq (.reg Tryd.fn5_r27)
   (.trim [0, 1, 19, 20, 152]))
  (.seq (.seq (.reg Tryd.fn5_r28)
   (.trim [153, 162]))
  (.seq (.reg Tryd.fn5_r29)
  (.trim [8]))))))
 .ret)))))))))))))), true⟩
/-! signalbench/signalbenchlaw55.CompareSelf -/
def Tryd.fn6_r0 : List AIns :=
   [⟨(some 6), .mov (.c (.bool false)), .none⟩]
def Tryd.fn6_r1 : List AIns :=
   [⟨(some 12), .mov (.t 0), .none⟩,
     ⟨(some 13), .lenl (.t 12), .none⟩,
     ⟨(some 14), .bin .gtr (.t 13) (.c (.int .i64 60)), .none⟩,
     ⟨(some 15), .mov (.t 14), .none⟩,
     ⟨(some 16), .mov (.t 2), (some (15, false))⟩,
     ⟨(some 17), .bin .lss (.t 16) (.c (.int .i64 0)), (some (15, false))⟩,
     ⟨(some 18), .pick (.t 15) (.c (.bool true)) (.t 17), .none⟩]
def Tryd.fn6_r2 : List AIns :=
   [⟨(some 19), .call 9 [], .none⟩,
      ⟨(some 6), .mov (.t 19), .none⟩]
def Tryd.fn6_r3 : List AIns :=
   [⟨(some 7), .mov (.c (.int .i64 0)), .none⟩]
def Tryd.fn6_r4 : List AIns :=
   [⟨(some 20), .mov (.t 7), .none⟩,
        ⟨(some 21), .mov (.t 0), .none⟩,
        ⟨(some 22), .lenl (.t 21), .none⟩,
        ⟨(some 23), .bin .lss (.t 20) (.t 22), .none⟩]
def Tryd.fn6_r5 : List AIns :=
   [⟨(some 26), .mov (.t 0), .none⟩,
         ⟨(some 27), .mov (.t 7), .none⟩,
         ⟨(some 28), .ia 7 (.t 26) (.t 27), .none⟩,
         ⟨(some 29), .ldn 7 (.t 28), .none⟩,
         ⟨(some 30), .call 17 [(.t 29)], .none⟩,
         ⟨(some 31), .un .not (.t 30), .none⟩]
def Tryd.fn6_r6 : List AIns :=
   [⟨(some 32), .mov (.t 0), .none⟩,
          ⟨(some 33), .mov (.t 0), .none⟩,
          ⟨(some 34), .mov (.t 2), .none⟩,
          ⟨(some 35), .call 13 [(.t 32), (.t 33), (.t 34)], .none⟩,
          ⟨(some 36), .un .not (.t 35), .none⟩,
          ⟨(some 37), .mov (.t 36), .none⟩,
          ⟨(some 38), .call 9 [], (some (37, true))⟩,
          ⟨(some 39), .pick (.t 37) (.t 38) (.c (.bool false)), .none⟩,
          ⟨(some 6), .mov (.t 39), .none⟩]
def Tryd.fn6_r7 : List AIns :=
   [⟨(some 24), .mov (.t 7), .none⟩,
      ⟨(some 25), .bin .add (.t 24) (.c (.int .i64 1)), .none⟩,
      ⟨(some 7), .mov (.t 25), .none⟩]
def Tryd.fn6_r8 : List AIns :=
   [⟨(some 41), .mov (.t 0), .none⟩,
    ⟨(some 42), .mov (.t 1), .none⟩,
    ⟨(some 43), .call 18 [(.t 41), (.t 42)], .none⟩,
    ⟨(some 40), .mov (.t 43), .none⟩,
    ⟨(some 44), .ext 0 (.t 40), .none⟩,
    ⟨(some 45), .ext 1 (.t 40), .none⟩,
    ⟨(some 8), .mov (.t 44), .none⟩,
    ⟨(some 9), .mov (.t 45), .none⟩]
def Tryd.fn6_r9 : List AIns :=
   [⟨(some 47), .mov (.t 0), .none⟩,
    ⟨(some 48), .mov (.t 0), .none⟩,
    ⟨(some 49), .mov (.t 2), .none⟩,
    ⟨(some 50), .call 10 [(.t 47), (.t 48), (.t 49)], .none⟩,
    ⟨(some 46), .mov (.t 50), .none⟩,
    ⟨(some 51), .ext 0 (.t 46), .none⟩,
    ⟨(some 52), .ext 1 (.t 46), .none⟩,
    ⟨(some 10), .mov (.t 51), .none⟩,
    ⟨(some 11), .mov (.t 52), .none⟩]
def Tryd.fn6_r10 : List AIns :=
   [⟨(some 53), .mov (.t 11), .none⟩,
      ⟨(some 54), .bin .neq (.t 53) (.c (.int .i64 0)), .none⟩,
      ⟨(some 55), .mov (.t 54), .none⟩,
      ⟨(some 56), .mov (.t 10), (some (55, false))⟩,
      ⟨(some 57), .lenl (.t 56), (some (55, false))⟩,
      ⟨(some 58), .bin .neq (.t 57) (.c (.int .i64 0)), (some (55, false))⟩,
      ⟨(some 59), .pick (.t 55) (.c (.bool true)) (.t 58), .none⟩,
      ⟨(some 60), .mov (.t 59), .none⟩,
      ⟨(some 61), .mov (.t 0), (some (60, false))⟩,
      ⟨(some 62), .mov (.t 0), (some (60, false))⟩]
def Tryd.fn6_r11 : List AIns :=
   [⟨(some 63), .mov (.t 2), (some (60, false))⟩,
     ⟨(some 64), .call 13 [(.t 61), (.t 62), (.t 63)], (some (60, false))⟩,
     ⟨(some 65), .un .not (.t 64), (some (60, false))⟩,
     ⟨(some 66), .pick (.t 60) (.c (.bool true)) (.t 65), .none⟩]
def Tryd.fn6_r12 : List AIns :=
   [⟨(some 6), .mov (.c (.bool false)), .none⟩]
def Tryd.fn6_r13 : List AIns :=
   [⟨(some 67), .mov (.t 9), .none⟩,
     ⟨(some 68), .bin .neq (.t 67) (.c (.int .i64 0)), .none⟩]
def Tryd.fn6_r14 : List AIns :=
   [⟨(some 69), .call 9 [], .none⟩,
      ⟨(some 6), .mov (.t 69), .none⟩]
def Tryd.fn6_r15 : List AIns :=
   [⟨(some 70), .mov (.t 0), .none⟩,
     ⟨(some 71), .mov (.t 8), .none⟩,
     ⟨(some 72), .mov (.t 2), .none⟩,
     ⟨(some 73), .call 13 [(.t 70), (.t 71), (.t 72)], .none⟩,
     ⟨(some 74), .mov (.t 73), .none⟩,
     ⟨(some 75), .mov (.t 8), (some (74, true))⟩,
     ⟨(some 76), .mov (.t 0), (some (74, true))⟩,
     ⟨(some 77), .mov (.t 2), (some (74, true))⟩,
     ⟨(some 78), .call 13 [(.t 75), (.t 76), (.t 77)], (some (74, true))⟩,
     ⟨(some 79), .pick (.t 74) (.t 78) (.c (.bool false)), .none⟩]
def Tryd.fn6_r16 : List AIns :=
   [⟨(some 80), .mov (.t 79), .none⟩,
    ⟨(some 81), .call 9 [], (some (80, true))⟩,
    ⟨(some 82), .pick (.t 80) (.t 81) (.c (.bool false)), .none⟩,
    ⟨(some 6), .mov (.t 82), .none⟩]
def Tryd.fn6_l0 : ACode :=
 (.seq (.seq (.seq (.reg Tryd.fn6_r4)
      (.trim [0, 1, 2, 7, 23]))
     (.cond (.t 23)
      .skip
      (.exit 0)))
    (.seq (.block 1
      (.seq (.seq (.reg Tryd.fn6_r5)
       (.trim [0, 1, 2, 7, 31]))
      (.cond (.t 31)
       (.seq (.seq (.reg Tryd.fn6_r6)
        (.trim [6]))
       .ret)
       .skip)))
    (.seq (.reg Tryd.fn6_r7)
    (.trim [0, 1, 2, 7]))))
def Tryd.fn6 : AFun :=
 ⟨83, [.tmp 6],
 (.seq (.seq (.reg Tryd.fn6_r0)
  (.trim [0, 1, 2]))
 (.seq (.seq (.seq (.reg Tryd.fn6_r1)
   (.trim [0, 1, 2, 18]))
  (.cond (.t 18)
   (.seq (.seq (.reg Tryd.fn6_r2)
    (.trim [6]))
   .ret)
   .skip))
 (.seq (.seq (.seq (.reg Tryd.fn6_r3)
   (.trim [0, 1, 2, 7]))
  (.block 0
   (.loop (some [0, 1, 2, 7])
    Tryd.fn6_l0)))
 (.seq (.seq (.reg Tryd.fn6_r8)
  (.trim [0, 2, 8, 9]))
 (.seq (.seq (.reg Tryd.fn6_r9)
  (.trim [0, 2, 8, 9, 10, 11]))
 (.seq (.seq (.seq (.seq (.reg Tryd.fn6_r10)
    (.trim [0, 2, 8, 9, 60, 61, 62]))
   (.seq (.reg Tryd.fn6_r11)
   (.trim [0, 2, 8, 9, 66])))
  (.cond (.t 66)
   (.seq (.seq (.reg Tryd.fn6_r12)
    (.trim [6]))
   .ret)
   .skip))
 (.seq (.seq (.seq (.reg Tryd.fn6_r13)
   (.trim [0, 2, 8, 68]))
  (.cond (.t 68)
   (.seq (.seq (.reg Tryd.fn6_r14)
    (.trim [6]))
   .ret)
   .skip))
 (.seq (.seq (.seq (.reg Tryd.fn6_r15)
   (.trim [79]))
  (.seq (.reg Tryd.fn6_r16)
  (.trim [6])))
 .ret)))))))), true⟩
/-! signalbench/compare.Key -/
def Tryd.fn7_r0 : List AIns :=
   [⟨(some 1), .box 23 (.t 0), .none⟩,
    ⟨(some 2), .mov (.c (.str [])), .none⟩]
def Tryd.fn7_r1 : List AIns :=
   [⟨(some 5), .ldn 7 (.t 1), .none⟩,
     ⟨(some 6), .call 17 [(.t 5)], .none⟩,
     ⟨(some 7), .un .not (.t 6), .none⟩]
def Tryd.fn7_r2 : List AIns :=
   [⟨(some 2), .mov (.c (.str [])), .none⟩]
def Tryd.fn7_r3 : List AIns :=
   [⟨(some 9), .ldn 7 (.t 1), .none⟩,
    ⟨(some 10), .call 20 [(.t 9)], .none⟩,
    ⟨(some 11), .call 19 [(.t 10)], .none⟩,
    ⟨(some 8), .mov (.t 11), .none⟩,
    ⟨(some 12), .ext 0 (.t 8), .none⟩,
    ⟨(some 13), .ext 1 (.t 8), .none⟩,
    ⟨(some 3), .mov (.t 12), .none⟩,
    ⟨(some 4), .mov (.t 13), .none⟩]
def Tryd.fn7_r4 : List AIns :=
   [⟨(some 14), .mov (.t 3), .none⟩,
    ⟨(some 2), .mov (.t 14), .none⟩]
def Tryd.fn7 : AFun :=
 ⟨15, [.tmp 2],
 (.seq (.seq (.reg Tryd.fn7_r0)
  (.trim [1]))
 (.seq (.seq (.seq (.reg Tryd.fn7_r1)
   (.trim [1, 7]))
  (.cond (.t 7)
   (.seq (.seq (.reg Tryd.fn7_r2)
    (.trim [2]))
   .ret)
   .skip))
 (.seq (.seq (.reg Tryd.fn7_r3)
  (.trim [3]))
 (.seq (.seq (.reg Tryd.fn7_r4)
  (.trim [2]))
 .ret)))), true⟩
/-! signalbench/signalbenchref55.Key -/
def Tryd.fn8_r0 : List AIns :=
   [⟨(some 1), .box 23 (.t 0), .none⟩,
    ⟨(some 2), .mov (.c (.str [])), .none⟩]
def Tryd.fn8_r1 : List AIns :=
   [⟨(some 5), .ldn 7 (.t 1), .none⟩,
     ⟨(some 6), .call 21 [(.t 5)], .none⟩,
     ⟨(some 7), .un .not (.t 6), .none⟩]
def Tryd.fn8_r2 : List AIns :=
   [⟨(some 2), .mov (.c (.str [])), .none⟩]
def Tryd.fn8_r3 : List AIns :=
   [⟨(some 9), .ldn 7 (.t 1), .none⟩,
    ⟨(some 10), .call 23 [(.t 9)], .none⟩,
    ⟨(some 11), .call 22 [(.t 10)], .none⟩,
    ⟨(some 8), .mov (.t 11), .none⟩,
    ⟨(some 12), .ext 0 (.t 8), .none⟩,
    ⟨(some 13), .ext 1 (.t 8), .none⟩,
    ⟨(some 3), .mov (.t 12), .none⟩,
    ⟨(some 4), .mov (.t 13), .none⟩]
def Tryd.fn8_r4 : List AIns :=
   [⟨(some 14), .mov (.t 3), .none⟩,
    ⟨(some 2), .mov (.t 14), .none⟩]
def Tryd.fn8 : AFun :=
 ⟨15, [.tmp 2],
 (.seq (.seq (.reg Tryd.fn8_r0)
  (.trim [1]))
 (.seq (.seq (.seq (.reg Tryd.fn8_r1)
   (.trim [1, 7]))
  (.cond (.t 7)
   (.seq (.seq (.reg Tryd.fn8_r2)
    (.trim [2]))
   .ret)
   .skip))
 (.seq (.seq (.reg Tryd.fn8_r3)
  (.trim [3]))
 (.seq (.seq (.reg Tryd.fn8_r4)
  (.trim [2]))
 .ret)))), true⟩
/-! signalbench/signalbenchlaw55.awake -/
def Tryd.fn9_r0 : List AIns :=
   [⟨(some 0), .mov (.c (.bool false)), .none⟩]
def Tryd.fn9_r1 : List AIns :=
   [⟨(some 10), .call 24 [(.c (.int .i64 0)), (.c (.str [120]))], .none⟩,
    ⟨(some 11), .call 24 [(.c (.int .i64 10)), (.c (.str [121]))], .none⟩,
    ⟨(some 12), .call 24 [(.c (.int .i64 20)), (.c (.str [122]))], .none⟩,
    ⟨(some 13), .bsl 23 7 3 [(.int .i64 0), (.int .i64 0), (.int .i64 0), (.int .i64 0), (.int .i64 0), (.str []), (.int .i64 0)] [(0, 7, (.t 10)), (7, 7, (.t 11)), (14, 7, (.t 12))], .none⟩,
    ⟨(some 1), .mov (.t 13), .none⟩]
def Tryd.fn9_r2 : List AIns :=
   [⟨(some 14), .call 24 [(.c (.int .i64 5)), (.c (.str [121]))], .none⟩,
    ⟨(some 15), .call 24 [(.c (.int .i64 9)), (.c (.str [119]))], .none⟩,
    ⟨(some 16), .call 24 [(.c (.int .i64 15)), (.c (.str [122]))], .none⟩,
    ⟨(some 17), .bsl 23 7 3 [(.int .i64 0), (.int .i64 0), (.int .i64 0), (.int .i64 0), (.int .i64 0), (.str []), (.int .i64 0)] [(0, 7, (.t 14)), (7, 7, (.t 15)), (14, 7, (.t 16))], .none⟩,
    ⟨(some 2), .mov (.t 17), .none⟩]
def Tryd.fn9_r3 : List AIns :=
   [⟨(some 19), .mov (.t 1), .none⟩,
    ⟨(some 20), .mov (.t 2), .none⟩,
    ⟨(some 21), .call 10 [(.t 19), (.t 20), (.c (.int .i64 1))], .none⟩,
    ⟨(some 18), .mov (.t 21), .none⟩,
    ⟨(some 22), .ext 0 (.t 18), .none⟩,
    ⟨(some 23), .ext 1 (.t 18), .none⟩,
    ⟨(some 3), .mov (.t 22), .none⟩,
    ⟨(some 4), .mov (.t 23), .none⟩]
def Tryd.fn9_r4 : List AIns :=
   [⟨(some 24), .bld [(.int .i64 0), (.int .i64 0), (.int .i64 0)] [(0, 1, (.c (.int .i64 1))), (1, 1, (.c (.int .i64 0))), (2, 1, (.c (.int .i64 (-1))))], .none⟩,
    ⟨(some 25), .bld [(.int .i64 0), (.int .i64 0), (.int .i64 0)] [(0, 1, (.c (.int .i64 2))), (1, 1, (.c (.int .i64 (-1)))), (2, 1, (.c (.int .i64 1)))], .none⟩,
    ⟨(some 26), .bsl 48 3 2 [(.int .i64 0), (.int .i64 0), (.int .i64 0)] [(0, 3, (.t 24)), (3, 3, (.t 25))], .none⟩,
    ⟨(some 5), .mov (.t 26), .none⟩]
def Tryd.fn9_r5 : List AIns :=
   [⟨(some 27), .mov (.t 2), .none⟩,
    ⟨(some 28), .call 24 [(.c (.int .i64 17)), (.c (.str [122]))], .none⟩,
    ⟨(some 29), .ia 7 (.t 27) (.c (.int .i64 2)), .none⟩,
    ⟨.none, .st 7 (.t 29) (.t 28), .none⟩]
def Tryd.fn9_r6 : List AIns :=
   [⟨(some 31), .mov (.t 1), .none⟩,
    ⟨(some 32), .mov (.t 2), .none⟩,
    ⟨(some 33), .call 10 [(.t 31), (.t 32), (.c (.int .i64 1))], .none⟩,
    ⟨(some 30), .mov (.t 33), .none⟩,
    ⟨(some 34), .ext 0 (.t 30), .none⟩,
    ⟨(some 35), .ext 1 (.t 30), .none⟩,
    ⟨(some 6), .mov (.t 34), .none⟩,
    ⟨(some 7), .mov (.t 35), .none⟩]
def Tryd.fn9_r7 : List AIns :=
   [⟨(some 37), .mov (.t 1), .none⟩,
    ⟨(some 38), .mov (.t 2), .none⟩,
    ⟨(some 39), .call 10 [(.t 37), (.t 38), (.c (.int .i64 (-1)))], .none⟩,
    ⟨(some 36), .mov (.t 39), .none⟩,
    ⟨(some 40), .ext 0 (.t 36), .none⟩,
    ⟨(some 41), .ext 1 (.t 36), .none⟩,
    ⟨(some 8), .mov (.t 40), .none⟩,
    ⟨(some 9), .mov (.t 41), .none⟩]
def Tryd.fn9_r8h : List DIns :=
   ⟨⟨(some 0), .mov (.t 89), .none⟩, [47, 45, 0, 1, 2, 3, 4, 5, 6, 7, 8, 9, 10, 11, 12, 13, 14, 15, 16, 17, 18, 19, 20, 21, 22, 23, 24, 25, 26, 27, 28, 29, 30, 31, 32, 33, 34, 35, 36, 37, 38, 39, 40, 41, 42, 43, 44, 46], [], 0⟩ ::
   []
def Tryd.fn9_r8g : List DIns :=
   ⟨⟨(some 84), .mov (.t 1), (some (79, true))⟩, [37, 36, 34, 28, 35, 27, 26, 23, 22, 19, 21, 18, 17, 11, 10, 7, 9, 6, 5, 2, 1, 0, 3, 4, 8, 12, 16, 13, 15, 14, 20, 24, 25, 32, 31, 30, 29, 33], [43, 44, 45, 46, 47, 48], 0⟩ ::
   ⟨⟨(some 85), .ia 7 (.t 84) (.c (.int .i64 1)), (some (79, true))⟩, [42, 37, 36, 34, 28, 35, 27, 26, 23, 22, 19, 21, 18, 17, 11, 10, 7, 9, 6, 5, 2, 1, 0, 3, 4, 8, 12, 16, 13, 15, 14, 20, 24, 25, 32, 31, 30, 29, 33], [44, 45, 46, 47, 48], 0⟩ ::
   ⟨⟨(some 86), .ldn 7 (.t 85), (some (79, true))⟩, [43, 37, 42, 36, 34, 28, 35, 27, 26, 23, 22, 19, 21, 18, 17, 11, 10, 7, 9, 6, 5, 2, 1, 0, 3, 4, 8, 12, 16, 13, 15, 14, 20, 24, 25, 32, 31, 30, 29, 33], [45, 46, 47, 48], 1⟩ ::
   ⟨⟨(some 87), .call 7 [(.t 86)], (some (79, true))⟩, [44, 41, 37, 43, 42, 36, 34, 28, 35, 27, 26, 23, 22, 19, 21, 18, 17, 11, 10, 7, 9, 6, 5, 2, 1, 0, 3, 4, 8, 12, 16, 13, 15, 14, 20, 24, 25, 32, 31, 30, 29, 33, 40, 39, 38], [46, 47, 48], 2⟩ ::
   ⟨⟨(some 88), .bin .neq (.t 83) (.t 87), (some (79, true))⟩, [41, 45, 37, 40, 39, 38, 36, 34, 28, 35, 27, 26, 23, 22, 19, 21, 18, 17, 11, 10, 7, 9, 6, 5, 2, 1, 0, 3, 4, 8, 12, 16, 13, 15, 14, 20, 24, 25, 32, 31, 30, 29, 33, 44, 43, 42], [47, 48], 0⟩ ::
   ⟨⟨(some 89), .pick (.t 79) (.t 88) (.c (.bool false)), .none⟩, [37, 46, 36, 34, 28, 35, 27, 26, 23, 22, 19, 21, 18, 17, 11, 10, 7, 9, 6, 5, 2, 1, 0, 3, 4, 8, 12, 16, 13, 15, 14, 20, 24, 25, 32, 31, 30, 29, 33, 41, 45, 40, 39, 38, 44, 43, 42], [48], 0⟩ ::
   Tryd.fn9_r8h
def Tryd.fn9_r8f : List DIns :=
   ⟨⟨(some 78), .pick (.t 70) (.t 77) (.c (.bool false)), .none⟩, [28, 35, 27, 26, 23, 22, 19, 21, 18, 17, 11, 10, 7, 9, 6, 5, 2, 1, 0, 3, 4, 8, 12, 16, 13, 15, 14, 20, 24, 25, 32, 34, 31, 30, 29, 33], [37, 38, 39, 40, 41, 42, 43, 44, 45, 46, 47, 48], 0⟩ ::
   ⟨⟨(some 79), .mov (.t 78), .none⟩, [36, 34, 28, 35, 27, 26, 23, 22, 19, 21, 18, 17, 11, 10, 7, 9, 6, 5, 2, 1, 0, 3, 4, 8, 12, 16, 13, 15, 14, 20, 24, 25, 32, 31, 30, 29, 33], [38, 39, 40, 41, 42, 43, 44, 45, 46, 47, 48], 0⟩ ::
   ⟨⟨(some 80), .mov (.t 1), (some (79, true))⟩, [37, 36, 34, 28, 35, 27, 26, 23, 22, 19, 21, 18, 17, 11, 10, 7, 9, 6, 5, 2, 1, 0, 3, 4, 8, 12, 16, 13, 15, 14, 20, 24, 25, 32, 31, 30, 29, 33], [39, 40, 41, 45, 46, 47, 48], 0⟩ ::
   ⟨⟨(some 81), .ia 7 (.t 80) (.c (.int .i64 0)), (some (79, true))⟩, [38, 37, 36, 34, 28, 35, 27, 26, 23, 22, 19, 21, 18, 17, 11, 10, 7, 9, 6, 5, 2, 1, 0, 3, 4, 8, 12, 16, 13, 15, 14, 20, 24, 25, 32, 31, 30, 29, 33], [40, 41, 45, 46, 47, 48], 0⟩ ::
   ⟨⟨(some 82), .ldn 7 (.t 81), (some (79, true))⟩, [39, 37, 38, 36, 34, 28, 35, 27, 26, 23, 22, 19, 21, 18, 17, 11, 10, 7, 9, 6, 5, 2, 1, 0, 3, 4, 8, 12, 16, 13, 15, 14, 20, 24, 25, 32, 31, 30, 29, 33], [41, 45, 46, 47, 48], 1⟩ ::
   ⟨⟨(some 83), .call 7 [(.t 82)], (some (79, true))⟩, [40, 37, 39, 38, 36, 34, 28, 35, 27, 26, 23, 22, 19, 21, 18, 17, 11, 10, 7, 9, 6, 5, 2, 1, 0, 3, 4, 8, 12, 16, 13, 15, 14, 20, 24, 25, 32, 31, 30, 29, 33], [45, 46, 47, 48], 1⟩ ::
   Tryd.fn9_r8g
def Tryd.fn9_r8e : List DIns :=
   ⟨⟨(some 72), .ia 7 (.t 71) (.c (.int .i64 0)), (some (70, true))⟩, [29, 28, 27, 26, 23, 22, 19, 21, 18, 17, 11, 10, 7, 9, 6, 5, 2, 1, 0, 3, 4, 8, 12, 16, 13, 15, 14, 20, 24, 25], [31, 32, 33, 34, 35, 36, 37, 38, 39, 40, 41, 42, 43, 44, 45, 46, 47, 48], 0⟩ ::
   ⟨⟨(some 73), .ldn 7 (.t 72), (some (70, true))⟩, [30, 28, 29, 27, 26, 23, 22, 19, 21, 18, 17, 11, 10, 7, 9, 6, 5, 2, 1, 0, 3, 4, 8, 12, 16, 13, 15, 14, 20, 24, 25], [32, 33, 34, 35, 36, 37, 38, 39, 40, 41, 42, 43, 44, 45, 46, 47, 48], 2⟩ ::
   ⟨⟨(some 74), .call 7 [(.t 73)], (some (70, true))⟩, [31, 28, 30, 29, 27, 26, 23, 22, 19, 21, 18, 17, 11, 10, 7, 9, 6, 5, 2, 1, 0, 3, 4, 8, 12, 16, 13, 15, 14, 20, 24, 25], [33, 34, 35, 36, 37, 38, 39, 40, 41, 42, 43, 44, 45, 46, 47, 48], 2⟩ ::
   ⟨⟨(some 75), .call 24 [(.c (.int .i64 9)), (.c (.str [120]))], (some (70, true))⟩, [32, 28, 31, 30, 29, 27, 26, 23, 22, 19, 21, 18, 17, 11, 10, 7, 9, 6, 5, 2, 1, 0, 3, 4, 8, 12, 16, 13, 15, 14, 20, 24, 25], [34, 35, 36, 37, 38, 39, 40, 41, 42, 43, 44, 45, 46, 47, 48], 2⟩ ::
   ⟨⟨(some 76), .call 7 [(.t 75)], (some (70, true))⟩, [33, 28, 32, 31, 30, 29, 27, 26, 23, 22, 19, 21, 18, 17, 11, 10, 7, 9, 6, 5, 2, 1, 0, 3, 4, 8, 12, 16, 13, 15, 14, 20, 24, 25], [35, 36, 37, 38, 39, 40, 41, 42, 43, 44, 45, 46, 47, 48], 2⟩ ::
   ⟨⟨(some 77), .bin .eql (.t 74) (.t 76), (some (70, true))⟩, [32, 34, 28, 31, 30, 29, 27, 26, 23, 22, 19, 21, 18, 17, 11, 10, 7, 9, 6, 5, 2, 1, 0, 3, 4, 8, 12, 16, 13, 15, 14, 20, 24, 25, 33], [36, 37, 38, 39, 40, 41, 42, 43, 44, 45, 46, 47, 48], 0⟩ ::
   Tryd.fn9_r8f
def Tryd.fn9_r8d : List DIns :=
   ⟨⟨(some 66), .mov (.t 1), (some (65, true))⟩, [23, 22, 19, 21, 18, 17, 11, 10, 7, 9, 6, 5, 2, 1, 0, 3, 4, 8, 12, 16, 13, 15, 14, 20], [26, 27, 28, 29, 30, 31, 32, 33, 34, 35, 36, 37, 38, 39, 40, 41, 42, 43, 44, 45, 46, 47, 48], 0⟩ ::
   ⟨⟨(some 67), .mov (.t 1), (some (65, true))⟩, [23, 22, 19, 21, 18, 17, 11, 10, 7, 9, 6, 5, 2, 1, 0, 3, 4, 8, 12, 16, 13, 15, 14, 20], [26, 27, 28, 29, 30, 31, 32, 33, 34, 35, 36, 37, 38, 39, 40, 41, 42, 43, 44, 45, 46, 47, 48], 0⟩ ::
   ⟨⟨(some 68), .call 13 [(.t 66), (.t 67), (.c (.int .i64 0))], (some (65, true))⟩, [24, 25, 23, 22, 19, 21, 18, 17, 11, 10, 7, 9, 6, 5, 2, 1, 0, 3, 4, 8, 12, 16, 13, 15, 14, 20], [27, 28, 29, 30, 31, 32, 33, 34, 35, 36, 37, 38, 39, 40, 41, 42, 43, 44, 45, 46, 47, 48], 2⟩ ::
   ⟨⟨(some 69), .pick (.t 65) (.t 68) (.c (.bool false)), .none⟩, [23, 26, 22, 19, 21, 18, 17, 11, 10, 7, 9, 6, 5, 2, 1, 0, 3, 4, 8, 12, 16, 13, 15, 14, 20, 24, 25], [28, 29, 30, 31, 32, 33, 34, 35, 36, 37, 38, 39, 40, 41, 42, 43, 44, 45, 46, 47, 48], 0⟩ ::
   ⟨⟨(some 70), .mov (.t 69), .none⟩, [27, 26, 23, 22, 19, 21, 18, 17, 11, 10, 7, 9, 6, 5, 2, 1, 0, 3, 4, 8, 12, 16, 13, 15, 14, 20, 24, 25], [29, 30, 31, 32, 33, 34, 35, 36, 37, 38, 39, 40, 41, 42, 43, 44, 45, 46, 47, 48], 0⟩ ::
   ⟨⟨(some 71), .mov (.t 1), (some (70, true))⟩, [28, 27, 26, 23, 22, 19, 21, 18, 17, 11, 10, 7, 9, 6, 5, 2, 1, 0, 3, 4, 8, 12, 16, 13, 15, 14, 20, 24, 25], [30, 31, 32, 33, 34, 35, 36, 37, 38, 39, 40, 41, 42, 43, 44, 45, 46, 47, 48], 0⟩ ::
   Tryd.fn9_r8e
def Tryd.fn9_r8c : List DIns :=
   ⟨⟨(some 60), .pick (.t 53) (.t 59) (.c (.bool false)), .none⟩, [11, 17, 10, 7, 9, 6, 5, 2, 1, 0, 3, 4, 8, 12, 16, 13, 15, 14], [19, 20, 21, 22, 23, 24, 25, 26, 27, 28, 29, 30, 31, 32, 33, 34, 35, 36, 37, 38, 39, 40, 41, 42, 43, 44, 45, 46, 47, 48], 0⟩ ::
   ⟨⟨(some 61), .mov (.t 60), .none⟩, [18, 17, 11, 10, 7, 9, 6, 5, 2, 1, 0, 3, 4, 8, 12, 16, 13, 15, 14], [20, 21, 22, 23, 24, 25, 26, 27, 28, 29, 30, 31, 32, 33, 34, 35, 36, 37, 38, 39, 40, 41, 42, 43, 44, 45, 46, 47, 48], 0⟩ ::
   ⟨⟨(some 62), .mov (.t 9), (some (61, true))⟩, [19, 18, 17, 11, 10, 7, 9, 6, 5, 2, 1, 0, 3, 4, 8, 12, 16, 13, 15, 14], [21, 22, 23, 24, 25, 26, 27, 28, 29, 30, 31, 32, 33, 34, 35, 36, 37, 38, 39, 40, 41, 42, 43, 44, 45, 46, 47, 48], 0⟩ ::
   ⟨⟨(some 63), .bin .eql (.t 62) (.c (.int .i64 1)), (some (61, true))⟩, [20, 19, 18, 17, 11, 10, 7, 9, 6, 5, 2, 1, 0, 3, 4, 8, 12, 16, 13, 15, 14], [22, 23, 24, 25, 26, 27, 28, 29, 30, 31, 32, 33, 34, 35, 36, 37, 38, 39, 40, 41, 42, 43, 44, 45, 46, 47, 48], 0⟩ ::
   ⟨⟨(some 64), .pick (.t 61) (.t 63) (.c (.bool false)), .none⟩, [19, 21, 18, 17, 11, 10, 7, 9, 6, 5, 2, 1, 0, 3, 4, 8, 12, 16, 13, 15, 14, 20], [23, 24, 25, 26, 27, 28, 29, 30, 31, 32, 33, 34, 35, 36, 37, 38, 39, 40, 41, 42, 43, 44, 45, 46, 47, 48], 0⟩ ::
   ⟨⟨(some 65), .mov (.t 64), .none⟩, [22, 19, 21, 18, 17, 11, 10, 7, 9, 6, 5, 2, 1, 0, 3, 4, 8, 12, 16, 13, 15, 14, 20], [24, 25, 26, 27, 28, 29, 30, 31, 32, 33, 34, 35, 36, 37, 38, 39, 40, 41, 42, 43, 44, 45, 46, 47, 48], 0⟩ ::
   Tryd.fn9_r8d
def Tryd.fn9_r8b : List DIns :=
   ⟨⟨(some 54), .mov (.t 6), (some (53, true))⟩, [11, 10, 7, 9, 6, 5, 2, 1, 0, 3, 4, 8], [17, 18, 19, 20, 21, 22, 23, 24, 25, 26, 27, 28, 29, 30, 31, 32, 33, 34, 35, 36, 37, 38, 39, 40, 41, 42, 43, 44, 45, 46, 47, 48], 0⟩ ::
   ⟨⟨(some 55), .mov (.t 5), (some (53, true))⟩, [11, 10, 7, 9, 6, 5, 2, 1, 0, 3, 4, 8], [16, 17, 18, 19, 20, 21, 22, 23, 24, 25, 26, 27, 28, 29, 30, 31, 32, 33, 34, 35, 36, 37, 38, 39, 40, 41, 42, 43, 44, 45, 46, 47, 48], 0⟩ ::
   ⟨⟨(some 56), .bld [(.int .i64 0), (.int .i64 0), (.int .i64 0)] [(0, 1, (.c (.int .i64 3))), (1, 1, (.c (.int .i64 2))), (2, 1, (.c (.int .i64 2)))], (some (53, true))⟩, [11, 10, 7, 9, 6, 5, 2, 1, 0, 3, 4, 8], [15, 16, 17, 18, 19, 20, 21, 22, 23, 24, 25, 26, 27, 28, 29, 30, 31, 32, 33, 34, 35, 36, 37, 38, 39, 40, 41, 42, 43, 44, 45, 46, 47, 48], 0⟩ ::
   ⟨⟨(some 57), .bsl 48 3 1 [(.int .i64 0), (.int .i64 0), (.int .i64 0)] [(0, 3, (.t 56))], (some (53, true))⟩, [14, 11, 10, 7, 9, 6, 5, 2, 1, 0, 3, 4, 8], [16, 17, 18, 19, 20, 21, 22, 23, 24, 25, 26, 27, 28, 29, 30, 31, 32, 33, 34, 35, 36, 37, 38, 39, 40, 41, 42, 43, 44, 45, 46, 47, 48], 2⟩ ::
   ⟨⟨(some 58), .app 48 3 24 (.t 55) (.t 57), (some (53, true))⟩, [13, 15, 11, 10, 7, 9, 6, 5, 2, 1, 0, 3, 4, 8, 14], [17, 18, 19, 20, 21, 22, 23, 24, 25, 26, 27, 28, 29, 30, 31, 32, 33, 34, 35, 36, 37, 38, 39, 40, 41, 42, 43, 44, 45, 46, 47, 48], 2⟩ ::
   ⟨⟨(some 59), .call 12 [(.t 54), (.t 58)], (some (53, true))⟩, [12, 16, 11, 10, 7, 9, 6, 5, 2, 1, 0, 3, 4, 8, 13, 15, 14], [18, 19, 20, 21, 22, 23, 24, 25, 26, 27, 28, 29, 30, 31, 32, 33, 34, 35, 36, 37, 38, 39, 40, 41, 42, 43, 44, 45, 46, 47, 48], 2⟩ ::
   Tryd.fn9_r8c
def Tryd.fn9_r8a : List DIns :=
   ⟨⟨(some 48), .pick (.t 44) (.t 47) (.c (.bool false)), .none⟩, [2, 5, 1, 0, 3, 4], [7, 8, 9, 10, 11, 12, 13, 14, 15, 16, 17, 18, 19, 20, 21, 22, 23, 24, 25, 26, 27, 28, 29, 30, 31, 32, 33, 34, 35, 36, 37, 38, 39, 40, 41, 42, 43, 44, 45, 46, 47, 48], 0⟩ ::
   ⟨⟨(some 49), .mov (.t 48), .none⟩, [6, 5, 2, 1, 0, 3, 4], [8, 9, 10, 11, 12, 13, 14, 15, 16, 17, 18, 19, 20, 21, 22, 23, 24, 25, 26, 27, 28, 29, 30, 31, 32, 33, 34, 35, 36, 37, 38, 39, 40, 41, 42, 43, 44, 45, 46, 47, 48], 0⟩ ::
   ⟨⟨(some 50), .mov (.t 7), (some (49, true))⟩, [7, 6, 5, 2, 1, 0, 3, 4], [9, 10, 11, 12, 13, 14, 15, 16, 17, 18, 19, 20, 21, 22, 23, 24, 25, 26, 27, 28, 29, 30, 31, 32, 33, 34, 35, 36, 37, 38, 39, 40, 41, 42, 43, 44, 45, 46, 47, 48], 0⟩ ::
   ⟨⟨(some 51), .bin .eql (.t 50) (.c (.int .i64 0)), (some (49, true))⟩, [8, 7, 6, 5, 2, 1, 0, 3, 4], [10, 11, 12, 13, 14, 15, 16, 17, 18, 19, 20, 21, 22, 23, 24, 25, 26, 27, 28, 29, 30, 31, 32, 33, 34, 35, 36, 37, 38, 39, 40, 41, 42, 43, 44, 45, 46, 47, 48], 0⟩ ::
   ⟨⟨(some 52), .pick (.t 49) (.t 51) (.c (.bool false)), .none⟩, [7, 9, 6, 5, 2, 1, 0, 3, 4, 8], [11, 12, 13, 14, 15, 16, 17, 18, 19, 20, 21, 22, 23, 24, 25, 26, 27, 28, 29, 30, 31, 32, 33, 34, 35, 36, 37, 38, 39, 40, 41, 42, 43, 44, 45, 46, 47, 48], 0⟩ ::
   ⟨⟨(some 53), .mov (.t 52), .none⟩, [10, 7, 9, 6, 5, 2, 1, 0, 3, 4, 8], [12, 13, 14, 15, 16, 17, 18, 19, 20, 21, 22, 23, 24, 25, 26, 27, 28, 29, 30, 31, 32, 33, 34, 35, 36, 37, 38, 39, 40, 41, 42, 43, 44, 45, 46, 47, 48], 0⟩ ::
   Tryd.fn9_r8b
def Tryd.fn9_r8 : List DIns :=
   ⟨⟨(some 42), .mov (.t 4), .none⟩, [], [1, 2, 3, 4, 5, 6, 7, 8, 9, 10, 11, 12, 13, 14, 15, 16, 17, 18, 19, 20, 21, 22, 23, 24, 25, 26, 27, 28, 29, 30, 31, 32, 33, 34, 35, 36, 37, 38, 39, 40, 41, 42, 43, 44, 45, 46, 47, 48], 0⟩ ::
   ⟨⟨(some 43), .bin .eql (.t 42) (.c (.int .i64 0)), .none⟩, [0], [2, 3, 4, 5, 6, 7, 8, 9, 10, 11, 12, 13, 14, 15, 16, 17, 18, 19, 20, 21, 22, 23, 24, 25, 26, 27, 28, 29, 30, 31, 32, 33, 34, 35, 36, 37, 38, 39, 40, 41, 42, 43, 44, 45, 46, 47, 48], 0⟩ ::
   ⟨⟨(some 44), .mov (.t 43), .none⟩, [1, 0], [3, 4, 5, 6, 7, 8, 9, 10, 11, 12, 13, 14, 15, 16, 17, 18, 19, 20, 21, 22, 23, 24, 25, 26, 27, 28, 29, 30, 31, 32, 33, 34, 35, 36, 37, 38, 39, 40, 41, 42, 43, 44, 45, 46, 47, 48], 0⟩ ::
   ⟨⟨(some 45), .mov (.t 3), (some (44, true))⟩, [2, 1, 0], [5, 6, 7, 8, 9, 10, 11, 12, 13, 14, 15, 16, 17, 18, 19, 20, 21, 22, 23, 24, 25, 26, 27, 28, 29, 30, 31, 32, 33, 34, 35, 36, 37, 38, 39, 40, 41, 42, 43, 44, 45, 46, 47, 48], 0⟩ ::
   ⟨⟨(some 46), .mov (.t 5), (some (44, true))⟩, [2, 1, 0], [5, 6, 7, 8, 9, 10, 11, 12, 13, 14, 15, 16, 17, 18, 19, 20, 21, 22, 23, 24, 25, 26, 27, 28, 29, 30, 31, 32, 33, 34, 35, 36, 37, 38, 39, 40, 41, 42, 43, 44, 45, 46, 47, 48], 0⟩ ::
   ⟨⟨(some 47), .call 12 [(.t 45), (.t 46)], (some (44, true))⟩, [3, 4, 2, 1, 0], [6, 7, 8, 9, 10, 11, 12, 13, 14, 15, 16, 17, 18, 19, 20, 21, 22, 23, 24, 25, 26, 27, 28, 29, 30, 31, 32, 33, 34, 35, 36, 37, 38, 39, 40, 41, 42, 43, 44, 45, 46, 47, 48], 2⟩ ::
   Tryd.fn9_r8a
def Tryd.fn9 : AFun :=
 ⟨90, [.tmp 0],
 (.seq (.seq (.reg Tryd.fn9_r0)
  (.trim []))
 (.seq (.seq (.reg Tryd.fn9_r1)
  (.trim [1]))
 (.seq (.seq (.reg Tryd.fn9_r2)
  (.trim [1, 2]))
 (.seq (.seq (.reg Tryd.fn9_r3)
  (.trim [1, 2, 3, 4]))
 (.seq (.seq (.reg Tryd.fn9_r4)
  (.trim [1, 2, 3, 4, 5]))
 (.seq (.seq (.reg Tryd.fn9_r5)
  (.trim [1, 2, 3, 4, 5]))
 (.seq (.seq (.reg Tryd.fn9_r6)
  (.trim [1, 2, 3, 4, 5, 6, 7]))
 (.seq (.seq (.reg Tryd.fn9_r7)
  (.trim [1, 3, 4, 5, 6, 7, 9]))
 (.seq (.seq (.regd Tryd.fn9_r8)
  (.trim [0]))
 .ret))))))))), true⟩
/-! signalbench/compare.Diff -/
def Tryd.fn10_r0 : List AIns :=
   [⟨(some 6), .mov (.c .nils), .none⟩,
    ⟨(some 7), .mov (.c (.int .i64 0)), .none⟩]
def Tryd.fn10_r1 : List AIns :=
   [⟨(some 20), .mov (.t 0), .none⟩,
    ⟨(some 21), .call 25 [(.t 20)], .none⟩,
    ⟨(some 19), .mov (.t 21), .none⟩,
    ⟨(some 22), .ext 0 (.t 19), .none⟩,
    ⟨(some 23), .ext 1 (.t 19), .none⟩,
    ⟨(some 8), .mov (.t 22), .none⟩,
    ⟨(some 9), .mov (.t 23), .none⟩]
def Tryd.fn10_r2 : List AIns :=
   [⟨(some 25), .mov (.t 1), .none⟩,
    ⟨(some 26), .call 25 [(.t 25)], .none⟩,
    ⟨(some 24), .mov (.t 26), .none⟩,
    ⟨(some 27), .ext 0 (.t 24), .none⟩,
    ⟨(some 28), .ext 1 (.t 24), .none⟩,
    ⟨(some 10), .mov (.t 27), .none⟩,
    ⟨(some 11), .mov (.t 28), .none⟩]
def Tryd.fn10_r3 : List AIns :=
   [⟨(some 29), .mov (.t 2), .none⟩,
     ⟨(some 30), .bin .lss (.t 29) (.c (.int .i64 0)), .none⟩,
     ⟨(some 31), .mov (.t 30), .none⟩,
     ⟨(some 32), .mov (.t 9), (some (31, false))⟩,
     ⟨(some 33), .un .not (.t 32), (some (31, false))⟩,
     ⟨(some 34), .pick (.t 31) (.c (.bool true)) (.t 33), .none⟩,
     ⟨(some 35), .mov (.t 34), .none⟩,
     ⟨(some 36), .mov (.t 11), (some (35, false))⟩,
     ⟨(some 37), .un .not (.t 36), (some (35, false))⟩,
     ⟨(some 38), .pick (.t 35) (.c (.bool true)) (.t 37), .none⟩]
def Tryd.fn10_r4 : List AIns :=
   [⟨(some 6), .mov (.c .nils), .none⟩,
      ⟨(some 7), .mov (.c (.int .i64 1)), .none⟩]
def Tryd.fn10_r5 : List AIns :=
   [⟨(some 40), .mov (.t 8), .none⟩,
    ⟨(some 41), .mov (.t 10), .none⟩,
    ⟨(some 42), .call 26 [(.t 40), (.t 41)], .none⟩,
    ⟨(some 39), .mov (.t 42), .none⟩,
    ⟨(some 43), .ext 0 (.t 39), .none⟩,
    ⟨(some 44), .ext 1 (.t 39), .none⟩,
    ⟨(some 12), .mov (.t 43), .none⟩,
    ⟨(some 13), .mov (.t 44), .none⟩]
def Tryd.fn10_r6 : List AIns :=
   [⟨(some 45), .mov (.t 13), .none⟩,
     ⟨(some 46), .bin .neq (.t 45) (.c (.int .i64 0)), .none⟩]
def Tryd.fn10_r7 : List AIns :=
   [⟨(some 47), .mov (.t 13), .none⟩,
      ⟨(some 6), .mov (.c .nils), .none⟩,
      ⟨(some 7), .mov (.t 47), .none⟩]
def Tryd.fn10_r8 : List AIns :=
   [⟨(some 48), .mov (.t 0), .none⟩,
    ⟨(some 49), .mov (.t 1), .none⟩,
    ⟨(some 50), .mov (.t 12), .none⟩,
    ⟨(some 51), .call 27 [(.t 48), (.t 49), (.t 50)], .none⟩,
    ⟨(some 14), .mov (.t 51), .none⟩]
def Tryd.fn10_r9 : List AIns :=
   [⟨(some 15), .mov (.c .nils), .none⟩]
def Tryd.fn10_r10 : List AIns :=
   [⟨(some 52), .mov (.t 12), .none⟩,
     ⟨(some 53), .lenl (.t 52), .none⟩,
     ⟨(some 54), .mov (.c (.int .i64 0)), .none⟩]
def Tryd.fn10_r11 : List AIns :=
   [⟨(some 55), .bin .lss (.t 54) (.t 53), .none⟩]
def Tryd.fn10_r12 : List AIns :=
   [⟨(some 56), .ia 2 (.t 52) (.t 54), .none⟩,
         ⟨(some 57), .ldn 2 (.t 56), .none⟩,
         ⟨(some 17), .alloc 56 [(.int .i64 0), (.int .i64 0)], .none⟩,
         ⟨.none, .st 2 (.t 17) (.t 57), .none⟩]
def Tryd.fn10_r13 : List AIns :=
   [⟨(some 58), .mov (.t 0), .none⟩,
         ⟨(some 59), .mov (.t 1), .none⟩,
         ⟨(some 60), .ldn 2 (.t 17), .none⟩,
         ⟨(some 61), .mov (.t 14), .none⟩,
         ⟨(some 62), .mov (.t 2), .none⟩,
         ⟨(some 63), .call 28 [(.t 58), (.t 59), (.t 60), (.t 61), (.t 62)], .none⟩,
         ⟨(some 18), .alloc 48 [(.int .i64 0), (.int .i64 0), (.int .i64 0)], .none⟩,
         ⟨.none, .st 3 (.t 18) (.t 63), .none⟩]
def Tryd.fn10_r14 : List AIns :=
   [⟨(some 64), .ldn 3 (.t 18), .none⟩,
         ⟨(some 65), .bld [(.int .i64 0), (.int .i64 0), (.int .i64 0)] [], .none⟩,
         ⟨(some 66), .eqv true false (.st [(0, .none, .int), (1, .none, .int), (2, .none, .int)]) (.t 64) (.t 65), .none⟩]
def Tryd.fn10_r15 : List AIns :=
   [⟨(some 67), .mov (.t 15), .none⟩,
         ⟨(some 68), .ldn 3 (.t 18), .none⟩,
         ⟨(some 69), .bsl 48 3 1 [(.int .i64 0), (.int .i64 0), (.int .i64 0)] [(0, 3, (.t 68))], .none⟩,
         ⟨(some 70), .app 48 3 24 (.t 67) (.t 69), .none⟩,
         ⟨(some 15), .mov (.t 70), .none⟩]
def Tryd.fn10_r16 : List AIns :=
   [⟨(some 71), .bin .add (.t 54) (.c (.int .i64 1)), .none⟩,
      ⟨(some 54), .mov (.t 71), .none⟩]
def Tryd.fn10_r17 : List AIns :=
   [⟨(some 72), .mov (.t 15), .none⟩,
    ⟨(some 6), .mov (.t 72), .none⟩,
    ⟨(some 7), .mov (.c (.int .i64 0)), .none⟩]
def Tryd.fn10_l0 : ACode :=
 (.seq (.seq (.reg Tryd.fn10_r11)
     (.trim [0, 1, 2, 14, 15, 52, 53, 54, 55]))
    (.seq (.cond (.t 55)
      .skip
      (.exit 0))
    (.seq (.block 1
      (.seq (.seq (.reg Tryd.fn10_r12)
       (.trim [0, 1, 2, 14, 15, 17, 52, 53, 54]))
      (.seq (.seq (.reg Tryd.fn10_r13)
       (.trim [0, 1, 2, 14, 15, 18, 52, 53, 54]))
      (.seq (.seq (.reg Tryd.fn10_r14)
       (.trim [0, 1, 2, 14, 15, 18, 52, 53, 54, 66]))
      (.cond (.t 66)
       (.seq (.reg Tryd.fn10_r15)
       (.trim [0, 1, 2, 14, 15, 52, 53, 54]))
       .skip)))))
    (.seq (.reg Tryd.fn10_r16)
    (.trim [0, 1, 2, 14, 15, 52, 53, 54])))))
def Tryd.fn10 : AFun :=
 ⟨73, [.tmp 6, .tmp 7],
 (.seq (.seq (.reg Tryd.fn10_r0)
  (.trim [0, 1, 2]))
 (.seq (.seq (.reg Tryd.fn10_r1)
  (.trim [0, 1, 2, 8, 9]))
 (.seq (.seq (.reg Tryd.fn10_r2)
  (.trim [0, 1, 2, 8, 9, 10, 11]))
 (.seq (.seq (.seq (.reg Tryd.fn10_r3)
   (.trim [0, 1, 2, 8, 10, 38]))
  (.cond (.t 38)
   (.seq (.seq (.reg Tryd.fn10_r4)
    (.trim [6, 7]))
   .ret)
   .skip))
 (.seq (.seq (.reg Tryd.fn10_r5)
  (.trim [0, 1, 2, 12, 13]))
 (.seq (.seq (.seq (.reg Tryd.fn10_r6)
   (.trim [0, 1, 2, 12, 13, 46]))
  (.cond (.t 46)
   (.seq (.seq (.reg Tryd.fn10_r7)
    (.trim [6, 7]))
   .ret)
   .skip))
 (.seq (.seq (.reg Tryd.fn10_r8)
  (.trim [0, 1, 2, 12, 14]))
 (.seq (.seq (.reg Tryd.fn10_r9)
  (.trim [0, 1, 2, 12, 14, 15]))
 (.seq (.seq (.seq (.reg Tryd.fn10_r10)
   (.trim [0, 1, 2, 14, 15, 52, 53, 54]))
  (.block 0
   (.loop (some [0, 1, 2, 14, 15, 52, 53, 54])
    Tryd.fn10_l0)))
 (.seq (.seq (.reg Tryd.fn10_r17)
  (.trim [6, 7]))
 .ret)))))))))), true⟩
/-! signalbench/signalbenchref55.Diff -/
def Tryd.fn11_r0 : List AIns :=
   [⟨(some 6), .mov (.c .nils), .none⟩,
    ⟨(some 7), .mov (.c (.int .i64 0)), .none⟩]
def Tryd.fn11_r1 : List AIns :=
   [⟨(some 20), .mov (.t 0), .none⟩,
    ⟨(some 21), .call 29 [(.t 20)], .none⟩,
    ⟨(some 19), .mov (.t 21), .none⟩,
    ⟨(some 22), .ext 0 (.t 19), .none⟩,
    ⟨(some 23), .ext 1 (.t 19), .none⟩,
    ⟨(some 8), .mov (.t 22), .none⟩,
    ⟨(some 9), .mov (.t 23), .none⟩]
def Tryd.fn11_r2 : List AIns :=
   [⟨(some 25), .mov (.t 1), .none⟩,
    ⟨(some 26), .call 29 [(.t 25)], .none⟩,
    ⟨(some 24), .mov (.t 26), .none⟩,
    ⟨(some 27), .ext 0 (.t 24), .none⟩,
    ⟨(some 28), .ext 1 (.t 24), .none⟩,
    ⟨(some 10), .mov (.t 27), .none⟩,
    ⟨(some 11), .mov (.t 28), .none⟩]
def Tryd.fn11_r3 : List AIns :=
   [⟨(some 29), .mov (.t 2), .none⟩,
     ⟨(some 30), .bin .lss (.t 29) (.c (.int .i64 0)), .none⟩,
     ⟨(some 31), .mov (.t 30), .none⟩,
     ⟨(some 32), .mov (.t 9), (some (31, false))⟩,
     ⟨(some 33), .un .not (.t 32), (some (31, false))⟩,
     ⟨(some 34), .pick (.t 31) (.c (.bool true)) (.t 33), .none⟩,
     ⟨(some 35), .mov (.t 34), .none⟩,
     ⟨(some 36), .mov (.t 11), (some (35, false))⟩,
     ⟨(some 37), .un .not (.t 36), (some (35, false))⟩,
     ⟨(some 38), .pick (.t 35) (.c (.bool true)) (.t 37), .none⟩]
def Tryd.fn11_r4 : List AIns :=
   [⟨(some 6), .mov (.c .nils), .none⟩,
      ⟨(some 7), .mov (.c (.int .i64 1)), .none⟩]
def Tryd.fn11_r5 : List AIns :=
   [⟨(some 40), .mov (.t 8), .none⟩,
    ⟨(some 41), .mov (.t 10), .none⟩,
    ⟨(some 42), .call 30 [(.t 40), (.t 41)], .none⟩,
    ⟨(some 39), .mov (.t 42), .none⟩,
    ⟨(some 43), .ext 0 (.t 39), .none⟩,
    ⟨(some 44), .ext 1 (.t 39), .none⟩,
    ⟨(some 12), .mov (.t 43), .none⟩,
    ⟨(some 13), .mov (.t 44), .none⟩]
def Tryd.fn11_r6 : List AIns :=
   [⟨(some 45), .mov (.t 13), .none⟩,
     ⟨(some 46), .bin .neq (.t 45) (.c (.int .i64 0)), .none⟩]
def Tryd.fn11_r7 : List AIns :=
   [⟨(some 47), .mov (.t 13), .none⟩,
      ⟨(some 6), .mov (.c .nils), .none⟩,
      ⟨(some 7), .mov (.t 47), .none⟩]
def Tryd.fn11_r8 : List AIns :=
   [⟨(some 48), .mov (.t 0), .none⟩,
    ⟨(some 49), .mov (.t 1), .none⟩,
    ⟨(some 50), .mov (.t 12), .none⟩,
    ⟨(some 51), .call 31 [(.t 48), (.t 49), (.t 50)], .none⟩,
    ⟨(some 14), .mov (.t 51), .none⟩]
def Tryd.fn11_r9 : List AIns :=
   [⟨(some 52), .bsl 48 3 0 [(.int .i64 0), (.int .i64 0), (.int .i64 0)] [], .none⟩,
    ⟨(some 15), .mov (.t 52), .none⟩]
def Tryd.fn11_r10 : List AIns :=
   [⟨(some 16), .mov (.c (.int .i64 0)), .none⟩]
def Tryd.fn11_r11 : List AIns :=
   [⟨(some 53), .mov (.t 16), .none⟩,
        ⟨(some 54), .mov (.t 12), .none⟩,
        ⟨(some 55), .lenl (.t 54), .none⟩,
        ⟨(some 56), .bin .lss (.t 53) (.t 55), .none⟩]
def Tryd.fn11_r12 : List AIns :=
   [⟨(some 59), .mov (.t 12), .none⟩,
         ⟨(some 60), .mov (.t 16), .none⟩,
         ⟨(some 61), .ia 2 (.t 59) (.t 60), .none⟩,
         ⟨(some 62), .ldn 2 (.t 61), .none⟩,
         ⟨(some 17), .alloc 56 [(.int .i64 0), (.int .i64 0)], .none⟩,
         ⟨.none, .st 2 (.t 17) (.t 62), .none⟩]
def Tryd.fn11_r13 : List AIns :=
   [⟨(some 63), .fa 1 (.t 17), .none⟩,
         ⟨(some 64), .ld1 (.t 63), .none⟩,
         ⟨(some 65), .bin .lss (.t 64) (.c (.int .i64 0)), .none⟩]
def Tryd.fn11_r14 : List AIns :=
   [⟨(some 66), .mov (.t 15), .none⟩,
         ⟨(some 67), .fa 0 (.t 17), .none⟩,
         ⟨(some 68), .ld1 (.t 67), .none⟩,
         ⟨(some 69), .bld [(.int .i64 0), (.int .i64 0), (.int .i64 0)] [(0, 1, (.c (.int .i64 1))), (1, 1, (.t 68)), (2, 1, (.c (.int .i64 (-1))))], .none⟩,
         ⟨(some 70), .bsl 48 3 1 [(.int .i64 0), (.int .i64 0), (.int .i64 0)] [(0, 3, (.t 69))], .none⟩,
         ⟨(some 71), .app 48 3 24 (.t 66) (.t 70), .none⟩,
         ⟨(some 15), .mov (.t 71), .none⟩]
def Tryd.fn11_r15 : List AIns :=
   [⟨(some 72), .fa 0 (.t 17), .none⟩,
          ⟨(some 73), .ld1 (.t 72), .none⟩,
          ⟨(some 74), .bin .lss (.t 73) (.c (.int .i64 0)), .none⟩]
def Tryd.fn11_r16 : List AIns :=
   [⟨(some 75), .mov (.t 15), .none⟩,
          ⟨(some 76), .fa 1 (.t 17), .none⟩,
          ⟨(some 77), .ld1 (.t 76), .none⟩,
          ⟨(some 78), .bld [(.int .i64 0), (.int .i64 0), (.int .i64 0)] [(0, 1, (.c (.int .i64 2))), (1, 1, (.c (.int .i64 (-1)))), (2, 1, (.t 77))], .none⟩,
          ⟨(some 79), .bsl 48 3 1 [(.int .i64 0), (.int .i64 0), (.int .i64 0)] [(0, 3, (.t 78))], .none⟩,
          ⟨(some 80), .app 48 3 24 (.t 75) (.t 79), .none⟩,
          ⟨(some 15), .mov (.t 80), .none⟩]
def Tryd.fn11_r17b : List DIns :=
   ⟨⟨(some 93), .bin .sub (.t 86) (.t 92), .none⟩, [5, 11, 4, 3, 0, 2, 1, 10, 9, 6, 8, 7], [14, 15], 0⟩ ::
   ⟨⟨(some 94), .mov (.t 14), .none⟩, [], [14, 15], 0⟩ ::
   ⟨⟨(some 95), .bin .sub (.t 93) (.t 94), .none⟩, [12, 13, 5, 11, 4, 3, 0, 2, 1, 10, 9, 6, 8, 7], [15], 0⟩ ::
   ⟨⟨(some 18), .mov (.t 95), .none⟩, [14, 0, 1, 2, 3, 4, 5, 6, 7, 8, 9, 10, 11, 12, 13], [], 0⟩ ::
   []
def Tryd.fn11_r17a : List DIns :=
   ⟨⟨(some 87), .mov (.t 0), .none⟩, [], [9, 10, 11, 12, 14, 15], 0⟩ ::
   ⟨⟨(some 88), .fa 0 (.t 17), .none⟩, [], [8, 9, 10, 11, 12, 14, 15], 0⟩ ::
   ⟨⟨(some 89), .ld1 (.t 88), .none⟩, [7], [9, 10, 11, 12, 14, 15], 1⟩ ::
   ⟨⟨(some 90), .ia 7 (.t 87) (.t 89), .none⟩, [6, 8, 7], [10, 11, 12, 14, 15], 0⟩ ::
   ⟨⟨(some 91), .fa 1 (.t 90), .none⟩, [9, 6, 8, 7], [11, 12, 14, 15], 0⟩ ::
   ⟨⟨(some 92), .ld1 (.t 91), .none⟩, [10, 9, 6, 8, 7], [12, 14, 15], 1⟩ ::
   Tryd.fn11_r17b
def Tryd.fn11_r17 : List DIns :=
   ⟨⟨(some 81), .mov (.t 1), .none⟩, [], [3, 4, 5, 12, 14, 15], 0⟩ ::
   ⟨⟨(some 82), .fa 1 (.t 17), .none⟩, [], [2, 3, 4, 5, 12, 14, 15], 0⟩ ::
   ⟨⟨(some 83), .ld1 (.t 82), .none⟩, [1], [3, 4, 5, 12, 14, 15], 1⟩ ::
   ⟨⟨(some 84), .ia 7 (.t 81) (.t 83), .none⟩, [0, 2, 1], [4, 5, 12, 14, 15], 0⟩ ::
   ⟨⟨(some 85), .fa 1 (.t 84), .none⟩, [3, 0, 2, 1], [5, 12, 14, 15], 0⟩ ::
   ⟨⟨(some 86), .ld1 (.t 85), .none⟩, [4, 3, 0, 2, 1], [12, 14, 15], 1⟩ ::
   Tryd.fn11_r17a
def Tryd.fn11_r18 : List AIns :=
   [⟨(some 96), .mov (.t 18), .none⟩,
           ⟨(some 97), .mov (.t 2), .none⟩,
           ⟨(some 98), .bin .gtr (.t 96) (.t 97), .none⟩,
           ⟨(some 99), .mov (.t 98), .none⟩,
           ⟨(some 100), .mov (.t 18), (some (99, false))⟩,
           ⟨(some 101), .un .neg (.t 100), (some (99, false))⟩,
           ⟨(some 102), .mov (.t 2), (some (99, false))⟩,
           ⟨(some 103), .bin .gtr (.t 101) (.t 102), (some (99, false))⟩,
           ⟨(some 104), .pick (.t 99) (.c (.bool true)) (.t 103), .none⟩]
def Tryd.fn11_r19 : List AIns :=
   [⟨(some 105), .mov (.t 15), .none⟩,
           ⟨(some 106), .fa 0 (.t 17), .none⟩,
           ⟨(some 107), .ld1 (.t 106), .none⟩,
           ⟨(some 108), .fa 1 (.t 17), .none⟩,
           ⟨(some 109), .ld1 (.t 108), .none⟩,
           ⟨(some 110), .bld [(.int .i64 0), (.int .i64 0), (.int .i64 0)] [(0, 1, (.c (.int .i64 3))), (1, 1, (.t 107)), (2, 1, (.t 109))], .none⟩,
           ⟨(some 111), .bsl 48 3 1 [(.int .i64 0), (.int .i64 0), (.int .i64 0)] [(0, 3, (.t 110))], .none⟩,
           ⟨(some 112), .app 48 3 24 (.t 105) (.t 111), .none⟩,
           ⟨(some 15), .mov (.t 112), .none⟩]
def Tryd.fn11_r20 : List AIns :=
   [⟨(some 57), .mov (.t 16), .none⟩,
      ⟨(some 58), .bin .add (.t 57) (.c (.int .i64 1)), .none⟩,
      ⟨(some 16), .mov (.t 58), .none⟩]
def Tryd.fn11_r21 : List AIns :=
   [⟨(some 113), .mov (.t 15), .none⟩,
    ⟨(some 6), .mov (.t 113), .none⟩,
    ⟨(some 7), .mov (.c (.int .i64 0)), .none⟩]
def Tryd.fn11_l0 : ACode :=
 (.seq (.seq (.seq (.reg Tryd.fn11_r11)
      (.trim [0, 1, 2, 12, 14, 15, 16, 56]))
     (.cond (.t 56)
      .skip
      (.exit 0)))
    (.seq (.block 1
      (.seq (.seq (.reg Tryd.fn11_r12)
       (.trim [0, 1, 2, 12, 14, 15, 16, 17]))
      (.seq (.seq (.reg Tryd.fn11_r13)
       (.trim [0, 1, 2, 12, 14, 15, 16, 17, 65]))
      (.cond (.t 65)
       (.seq (.reg Tryd.fn11_r14)
       (.trim [0, 1, 2, 12, 14, 15, 16]))
       (.seq (.seq (.reg Tryd.fn11_r15)
        (.trim [0, 1, 2, 12, 14, 15, 16, 17, 74]))
       (.cond (.t 74)
        (.seq (.reg Tryd.fn11_r16)
        (.trim [0, 1, 2, 12, 14, 15, 16]))
        (.seq (.seq (.regd Tryd.fn11_r17)
         (.trim [0, 1, 2, 12, 14, 15, 16, 17, 18]))
        (.seq (.seq (.reg Tryd.fn11_r18)
         (.trim [0, 1, 2, 12, 14, 15, 16, 17, 104]))
        (.cond (.t 104)
         (.seq (.reg Tryd.fn11_r19)
         (.trim [0, 1, 2, 12, 14, 15, 16]))
         .skip)))))))))
    (.seq (.reg Tryd.fn11_r20)
    (.trim [0, 1, 2, 12, 14, 15, 16]))))
def Tryd.fn11 : AFun :=
 ⟨114, [.tmp 6, .tmp 7],
 (.seq (.seq (.reg Tryd.fn11_r0)
  (.trim [0, 1, 2]))
 (.seq (.seq (.reg Tryd.fn11_r1)
  (.trim [0, 1, 2, 8, 9]))
 (.seq (.seq (.reg Tryd.fn11_r2)
  (.trim [0, 1, 2, 8, 9, 10, 11]))
 (.seq (.seq (.seq (.reg Tryd.fn11_r3)
   (.trim [0, 1, 2, 8, 10, 38]))
  (.cond (.t 38)
   (.seq (.seq (.reg Tryd.fn11_r4)
    (.trim [6, 7]))
   .ret)
   .skip))
 (.seq (.seq (.reg Tryd.fn11_r5)
  (.trim [0, 1, 2, 12, 13]))
 (.seq (.seq (.seq (.reg Tryd.fn11_r6)
   (.trim [0, 1, 2, 12, 13, 46]))
  (.cond (.t 46)
   (.seq (.seq (.reg Tryd.fn11_r7)
    (.trim [6, 7]))
   .ret)
   .skip))
 (.seq (.seq (.reg Tryd.fn11_r8)
  (.trim [0, 1, 2, 12, 14]))
 (.seq (.seq (.reg Tryd.fn11_r9)
  (.trim [0, 1, 2, 12, 14, 15]))
 (.seq (.seq (.seq (.reg Tryd.fn11_r10)
   (.trim [0, 1, 2, 12, 14, 15, 16]))
  (.block 0
   (.loop (some [0, 1, 2, 12, 14, 15, 16])
    Tryd.fn11_l0)))
 (.seq (.seq (.reg Tryd.fn11_r21)
  (.trim [6, 7]))
 .ret)))))))))), true⟩
/-! signalbench/signalbenchref55.Equal -/
def Tryd.fn12_r0 : List AIns :=
   [⟨(some 4), .mov (.c (.bool false)), .none⟩]
def Tryd.fn12_r1 : List AIns :=
   [⟨(some 6), .mov (.t 0), .none⟩,
     ⟨(some 7), .lenl (.t 6), .none⟩,
     ⟨(some 8), .mov (.t 1), .none⟩,
     ⟨(some 9), .lenl (.t 8), .none⟩,
     ⟨(some 10), .bin .neq (.t 7) (.t 9), .none⟩]
def Tryd.fn12_r2 : List AIns :=
   [⟨(some 4), .mov (.c (.bool false)), .none⟩]
def Tryd.fn12_r3 : List AIns :=
   [⟨(some 5), .mov (.c (.int .i64 0)), .none⟩]
def Tryd.fn12_r4 : List AIns :=
   [⟨(some 11), .mov (.t 5), .none⟩,
        ⟨(some 12), .mov (.t 0), .none⟩,
        ⟨(some 13), .lenl (.t 12), .none⟩,
        ⟨(some 14), .bin .lss (.t 11) (.t 13), .none⟩]
def Tryd.fn12_r5a : List DIns :=
   ⟨⟨(some 23), .ia 3 (.t 21) (.t 22), .none⟩, [4, 5], [7, 8], 0⟩ ::
   ⟨⟨(some 24), .ldn 3 (.t 23), .none⟩, [6, 4, 5], [8], 1⟩ ::
   ⟨⟨(some 25), .eqv true false (.st [(0, .none, .int), (1, .none, .int), (2, .none, .int)]) (.t 20) (.t 24), .none⟩, [3, 7, 2, 0, 1, 6, 4, 5], [], 0⟩ ::
   []
def Tryd.fn12_r5 : List DIns :=
   ⟨⟨(some 17), .mov (.t 0), .none⟩, [], [2, 3, 8], 0⟩ ::
   ⟨⟨(some 18), .mov (.t 5), .none⟩, [], [2, 3, 8], 0⟩ ::
   ⟨⟨(some 19), .ia 3 (.t 17) (.t 18), .none⟩, [0, 1], [3, 8], 0⟩ ::
   ⟨⟨(some 20), .ldn 3 (.t 19), .none⟩, [2, 0, 1], [8], 1⟩ ::
   ⟨⟨(some 21), .mov (.t 1), .none⟩, [], [6, 7, 8], 0⟩ ::
   ⟨⟨(some 22), .mov (.t 5), .none⟩, [], [6, 7, 8], 0⟩ ::
   Tryd.fn12_r5a
def Tryd.fn12_r6 : List AIns :=
   [⟨(some 4), .mov (.c (.bool false)), .none⟩]
def Tryd.fn12_r7 : List AIns :=
   [⟨(some 15), .mov (.t 5), .none⟩,
      ⟨(some 16), .bin .add (.t 15) (.c (.int .i64 1)), .none⟩,
      ⟨(some 5), .mov (.t 16), .none⟩]
def Tryd.fn12_r8 : List AIns :=
   [⟨(some 4), .mov (.c (.bool true)), .none⟩]
def Tryd.fn12_l0 : ACode :=
 (.seq (.seq (.seq (.reg Tryd.fn12_r4)
      (.trim [0, 1, 5, 14]))
     (.cond (.t 14)
      .skip
      (.exit 0)))
    (.seq (.block 1
      (.seq (.seq (.regd Tryd.fn12_r5)
       (.trim [0, 1, 5, 25]))
      (.cond (.t 25)
       (.seq (.seq (.reg Tryd.fn12_r6)
        (.trim [4]))
       .ret)
       .skip)))
    (.seq (.reg Tryd.fn12_r7)
    (.trim [0, 1, 5]))))
def Tryd.fn12 : AFun :=
 ⟨26, [.tmp 4],
 (.seq (.seq (.reg Tryd.fn12_r0)
  (.trim [0, 1]))
 (.seq (.seq (.seq (.reg Tryd.fn12_r1)
   (.trim [0, 1, 10]))
  (.cond (.t 10)
   (.seq (.seq (.reg Tryd.fn12_r2)
    (.trim [4]))
   .ret)
   .skip))
 (.seq (.seq (.seq (.reg Tryd.fn12_r3)
   (.trim [0, 1, 5]))
  (.block 0
   (.loop (some [0, 1, 5])
    Tryd.fn12_l0)))
 (.seq (.seq (.reg Tryd.fn12_r8)
  (.trim [4]))
 .ret)))), true⟩
/-! signalbench/compare.Same -/
def Tryd.fn13_r0 : List AIns :=
   [⟨(some 6), .mov (.c (.bool false)), .none⟩]
def Tryd.fn13_r1 : List AIns :=
   [⟨(some 10), .mov (.t 0), .none⟩,
    ⟨(some 11), .mov (.t 1), .none⟩,
    ⟨(some 12), .mov (.t 2), .none⟩,
    ⟨(some 13), .call 10 [(.t 10), (.t 11), (.t 12)], .none⟩,
    ⟨(some 9), .mov (.t 13), .none⟩,
    ⟨(some 14), .ext 0 (.t 9), .none⟩,
    ⟨(some 15), .ext 1 (.t 9), .none⟩,
    ⟨(some 7), .mov (.t 14), .none⟩,
    ⟨(some 8), .mov (.t 15), .none⟩]
def Tryd.fn13_r2 : List AIns :=
   [⟨(some 16), .mov (.t 8), .none⟩,
    ⟨(some 17), .bin .eql (.t 16) (.c (.int .i64 0)), .none⟩,
    ⟨(some 18), .mov (.t 17), .none⟩,
    ⟨(some 19), .mov (.t 7), (some (18, true))⟩,
    ⟨(some 20), .lenl (.t 19), (some (18, true))⟩,
    ⟨(some 21), .bin .eql (.t 20) (.c (.int .i64 0)), (some (18, true))⟩,
    ⟨(some 22), .pick (.t 18) (.t 21) (.c (.bool false)), .none⟩,
    ⟨(some 6), .mov (.t 22), .none⟩]
def Tryd.fn13 : AFun :=
 ⟨23, [.tmp 6],
 (.seq (.seq (.reg Tryd.fn13_r0)
  (.trim [0, 1, 2]))
 (.seq (.seq (.reg Tryd.fn13_r1)
  (.trim [7, 8]))
 (.seq (.seq (.reg Tryd.fn13_r2)
  (.trim [6]))
 .ret))), true⟩
/-! signalbench/signalbenchref55.Same -/
def Tryd.fn14_r0 : List AIns :=
   [⟨(some 6), .mov (.c (.bool false)), .none⟩]
def Tryd.fn14_r1 : List AIns :=
   [⟨(some 10), .mov (.t 0), .none⟩,
    ⟨(some 11), .mov (.t 1), .none⟩,
    ⟨(some 12), .mov (.t 2), .none⟩,
    ⟨(some 13), .call 11 [(.t 10), (.t 11), (.t 12)], .none⟩,
    ⟨(some 9), .mov (.t 13), .none⟩,
    ⟨(some 14), .ext 0 (.t 9), .none⟩,
    ⟨(some 15), .ext 1 (.t 9), .none⟩,
    ⟨(some 7), .mov (.t 14), .none⟩,
    ⟨(some 8), .mov (.t 15), .none⟩]
def Tryd.fn14_r2 : List AIns :=
   [⟨(some 16), .mov (.t 8), .none⟩,
    ⟨(some 17), .bin .eql (.t 16) (.c (.int .i64 0)), .none⟩,
    ⟨(some 18), .mov (.t 17), .none⟩,
    ⟨(some 19), .mov (.t 7), (some (18, true))⟩,
    ⟨(some 20), .lenl (.t 19), (some (18, true))⟩,
    ⟨(some 21), .bin .eql (.t 20) (.c (.int .i64 0)), (some (18, true))⟩,
    ⟨(some 22), .pick (.t 18) (.t 21) (.c (.bool false)), .none⟩,
    ⟨(some 6), .mov (.t 22), .none⟩]
def Tryd.fn14 : AFun :=
 ⟨23, [.tmp 6],
 (.seq (.seq (.reg Tryd.fn14_r0)
  (.trim [0, 1, 2]))
 (.seq (.seq (.reg Tryd.fn14_r1)
  (.trim [7, 8]))
 (.seq (.seq (.reg Tryd.fn14_r2)
  (.trim [6]))
 .ret))), true⟩
/-! signalbench/align.Distance -/
def Tryd.fn15_r0 : List AIns :=
   [⟨(some 4), .mov (.c (.int .i64 0)), .none⟩,
    ⟨(some 5), .mov (.c (.int .i64 0)), .none⟩]
def Tryd.fn15_r1 : List AIns :=
   [⟨(some 12), .mov (.t 0), .none⟩,
     ⟨(some 13), .mov (.t 1), .none⟩,
     ⟨(some 14), .call 32 [(.t 12), (.t 13)], .none⟩,
     ⟨(some 15), .un .not (.t 14), .none⟩]
def Tryd.fn15_r2 : List AIns :=
   [⟨(some 4), .mov (.c (.int .i64 0)), .none⟩,
      ⟨(some 5), .mov (.c (.int .i64 6)), .none⟩]
def Tryd.fn15_r3 : List AIns :=
   [⟨(some 6), .alloc 60 [(.int .i64 0), (.int .i64 0), (.int .i64 0), (.int .i64 0), (.int .i64 0), (.int .i64 0), (.int .i64 0), (.int .i64 0), (.int .i64 0), (.int .i64 0), (.int .i64 0), (.int .i64 0), (.int .i64 0), (.int .i64 0), (.int .i64 0), (.int .i64 0), (.int .i64 0), (.int .i64 0), (.int .i64 0), (.int .i64 0), (.int .i64 0), (.int .i64 0), (.int .i64 0), (.int .i64 0), (.int .i64 0), (.int .i64 0), (.int .i64 0), (.int .i64 0), (.int .i64 0), (.int .i64 0), (.int .i64 0), (.int .i64 0), (.int .i64 0), (.int .i64 0), (.int .i64 0), (.int .i64 0), (.int .i64 0), (.int .i64 0), (.int .i64 0), (.int .i64 0), (.int .i64 0), (.int .i64 0), (.int .i64 0), (.int .i64 0), (.int .i64 0), (.int .i64 0), (.int .i64 0), (.int .i64 0), (.int .i64 0), (.int .i64 0), (.int .i64 0), (.int .i64 0), (.int .i64 0), (.int .i64 0), (.int .i64 0), (.int .i64 0), (.int .i64 0), (.int .i64 0), (.int .i64 0), (.int .i64 0), (.int .i64 0), (.int .i64 0), (.int .i64 0), (.int .i64 0), (.int .i64 0), (.int .i64 0), (.int .i64 0), (.int .i64 0), (.int .i64 0), (.int .i64 0), (.int .i64 0), (.int .i64 0), (.int .i64 0), (.int .i64 0), (.int .i64 0), (.int .i64 0), (.int .i64 0), (.int .i64 0), (.int .i64 0), (.int .i64 0), (.int .i64 0), (.int .i64 0), (.int .i64 0), (.int .i64 0), (.int .i64 0), (.int .i64 0), (.int .i64 0), (.int .i64 0), (.int .i64 0), (.int .i64 0), (.int .i64 0), (.int .i64 0), (.int .i64 0), (.int .i64 0), (.int .i64 0), (.int .i64 0), (.int .i64 0), (.int .i64 0), (.int .i64 0), (.int .i64 0), (.int .i64 0), (.int .i64 0), (.int .i64 0), (.int .i64 0), (.int .i64 0), (.int .i64 0), (.int .i64 0), (.int .i64 0), (.int .i64 0), (.int .i64 0), (.int .i64 0), (.int .i64 0), (.int .i64 0), (.int .i64 0), (.int .i64 0), (.int .i64 0), (.int .i64 0), (.int .i64 0), (.int .i64 0), (.int .i64 0), (.int .i64 0), (.int .i64 0), (.int .i64 0), (.int .i64 0), (.int .i64 0), (.int .i64 0), (.int .i64 0), (.int .i64 0), (.int .i64 0), (.int .i64 0), (.int .i64 0), (.int .i64 0), (.int .i64 0), (.int .i64 0), (.int .i64 0), (.int .i64 0), (.int .i64 0), (.int .i64 0), (.int .i64 0), (.int .i64 0), (.int .i64 0), (.int .i64 0), (.int .i64 0), (.int .i64 0), (.int .i64 0), (.int .i64 0), (.int .i64 0), (.int .i64 0), (.int .i64 0), (.int .i64 0), (.int .i64 0), (.int .i64 0), (.int .i64 0), (.int .i64 0), (.int .i64 0), (.int .i64 0), (.int .i64 0), (.int .i64 0), (.int .i64 0), (.int .i64 0), (.int .i64 0), (.int .i64 0), (.int .i64 0), (.int .i64 0), (.int .i64 0), (.int .i64 0), (.int .i64 0), (.int .i64 0), (.int .i64 0), (.int .i64 0), (.int .i64 0), (.int .i64 0), (.int .i64 0), (.int .i64 0), (.int .i64 0), (.int .i64 0), (.int .i64 0), (.int .i64 0), (.int .i64 0), (.int .i64 0), (.int .i64 0), (.int .i64 0), (.int .i64 0), (.int .i64 0), (.int .i64 0), (.int .i64 0), (.int .i64 0), (.int .i64 0), (.int .i64 0), (.int .i64 0), (.int .i64 0), (.int .i64 0), (.int .i64 0), (.int .i64 0), (.int .i64 0), (.int .i64 0), (.int .i64 0), (.int .i64 0), (.int .i64 0), (.int .i64 0), (.int .i64 0), (.int .i64 0), (.int .i64 0), (.int .i64 0), (.int .i64 0), (.int .i64 0), (.int .i64 0), (.int .i64 0), (.int .i64 0), (.int .i64 0), (.int .i64 0), (.int .i64 0), (.int .i64 0), (.int .i64 0), (.int .i64 0), (.int .i64 0), (.int .i64 0), (.int .i64 0), (.int .i64 0), (.int .i64 0), (.int .i64 0), (.int .i64 0), (.int .i64 0), (.int .i64 0), (.int .i64 0), (.int .i64 0), (.int .i64 0), (.int .i64 0), (.int .i64 0), (.int .i64 0), (.int .i64 0), (.int .i64 0), (.int .i64 0), (.int .i64 0), (.int .i64 0), (.int .i64 0), (.int .i64 0), (.int .i64 0), (.int .i64 0), (.int .i64 0), (.int .i64 0), (.int .i64 0), (.int .i64 0), (.int .i64 0), (.int .i64 0), (.int .i64 0), (.int .i64 0), (.int .i64 0), (.int .i64 0), (.int .i64 0), (.int .i64 0), (.int .i64 0), (.int .i64 0), (.int .i64 0), (.int .i64 0), (.int .i64 0), (.int .i64 0), (.int .i64 0), (.int .i64 0), (.int .i64 0), (.int .i64 0), (.int .i64 0), (.int .i64 0), (.int .i64 0), (.int .i64 0), (.int .i64 0), (.int .i64 0), (.int .i64 0), (.int .i64 0), (.int .i64 0), (.int .i64 0), (.int .i64 0), (.int .i64 0), (.int .i64 0), (.int .i64 0), (.int .i64 0), (.int .i64 0), (.int .i64 0), (.int .i64 0), (.int .i64 0), (.int .i64 0), (.int .i64 0), (.int .i64 0), (.int .i64 0), (.int .i64 0), (.int .i64 0), (.int .i64 0), (.int .i64 0), (.int .i64 0), (.int .i64 0), (.int .i64 0), (.int .i64 0), (.int .i64 0), (.int .i64 0), (.int .i64 0), (.int .i64 0), (.int .i64 0), (.int .i64 0), (.int .i64 0), (.int .i64 0), (.int .i64 0), (.int .i64 0), (.int .i64 0), (.int .i64 0), (.int .i64 0), (.int .i64 0), (.int .i64 0), (.int .i64 0), (.int .i64 0), (.int .i64 0), (.int .i64 0), (.int .i64 0), (.int .i64 0), (.int .i64 0), (.int .i64 0), (.int .i64 0), (.int .i64 0), (.int .i64 0), (.int .i64 0), (.int .i64 0), (.int .i64 0), (.int .i64 0), (.int .i64 0), (.int .i64 0), (.int .i64 0), (.int .i64 0), (.int .i64 0), (.int .i64 0), (.int .i64 0), (.int .i64 0), (.int .i64 0), (.int .i64 0), (.int .i64 0), (.int .i64 0), (.int .i64 0), (.int .i64 0), (.int .i64 0), (.int .i64 0), (.int .i64 0), (.int .i64 0), (.int .i64 0), (.int .i64 0), (.int .i64 0), (.int .i64 0), (.int .i64 0), (.int .i64 0), (.int .i64 0), (.int .i64 0), (.int .i64 0), (.int .i64 0), (.int .i64 0), (.int .i64 0), (.int .i64 0), (.int .i64 0), (.int .i64 0), (.int .i64 0), (.int .i64 0), (.int .i64 0), (.int .i64 0), (.int .i64 0), (.int .i64 0), (.int .i64 0), (.int .i64 0), (.int .i64 0), (.int .i64 0), (.int .i64 0), (.int .i64 0), (.int .i64 0), (.int .i64 0), (.int .i64 0), (.int .i64 0), (.int .i64 0), (.int .i64 0), (.int .i64 0), (.int .i64 0), (.int .i64 0), (.int .i64 0), (.int .i64 0), (.int .i64 0), (.int .i64 0), (.int .i64 0), (.int .i64 0), (.int .i64 0), (.int .i64 0), (.int .i64 0), (.int .i64 0), (.int .i64 0), (.int .i64 0), (.int .i64 0), (.int .i64 0), (.int .i64 0), (.int .i64 0), (.int .i64 0), (.int .i64 0), (.int .i64 0), (.int .i64 0), (.int .i64 0), (.int .i64 0), (.int .i64 0), (.int .i64 0), (.int .i64 0), (.int .i64 0), (.int .i64 0), (.int .i64 0), (.int .i64 0), (.int .i64 0), (.int .i64 0), (.int .i64 0), (.int .i64 0), (.int .i64 0), (.int .i64 0), (.int .i64 0), (.int .i64 0), (.int .i64 0), (.int .i64 0), (.int .i64 0), (.int .i64 0), (.int .i64 0), (.int .i64 0), (.int .i64 0), (.int .i64 0), (.int .i64 0), (.int .i64 0), (.int .i64 0), (.int .i64 0), (.int .i64 0), (.int .i64 0), (.int .i64 0), (.int .i64 0), (.int .i64 0), (.int .i64 0), (.int .i64 0), (.int .i64 0), (.int .i64 0), (.int .i64 0), (.int .i64 0), (.int .i64 0), (.int .i64 0), (.int .i64 0), (.int .i64 0), (.int .i64 0), (.int .i64 0), (.int .i64 0), (.int .i64 0), (.int .i64 0), (.int .i64 0), (.int .i64 0), (.int .i64 0), (.int .i64 0), (.int .i64 0), (.int .i64 0), (.int .i64 0), (.int .i64 0), (.int .i64 0), (.int .i64 0), (.int .i64 0), (.int .i64 0), (.int .i64 0), (.int .i64 0), (.int .i64 0), (.int .i64 0), (.int .i64 0), (.int .i64 0), (.int .i64 0), (.int .i64 0), (.int .i64 0), (.int .i64 0), (.int .i64 0), (.int .i64 0), (.int .i64 0), (.int .i64 0), (.int .i64 0), (.int .i64 0), (.int .i64 0), (.int .i64 0), (.int .i64 0), (.int .i64 0), (.int .i64 0), (.int .i64 0), (.int .i64 0), (.int .i64 0), (.int .i64 0), (.int .i64 0), (.int .i64 0), (.int .i64 0), (.int .i64 0), (.int .i64 0), (.int .i64 0), (.int .i64 0), (.int .i64 0), (.int .i64 0), (.int .i64 0), (.int .i64 0), (.int .i64 0), (.int .i64 0), (.int .i64 0), (.int .i64 0), (.int .i64 0), (.int .i64 0), (.int .i64 0), (.int .i64 0), (.int .i64 0), (.int .i64 0), (.int .i64 0), (.int .i64 0), (.int .i64 0), (.int .i64 0), (.int .i64 0), (.int .i64 0), (.int .i64 0), (.int .i64 0), (.int .i64 0), (.int .i64 0), (.int .i64 0), (.int .i64 0), (.int .i64 0), (.int .i64 0), (.int .i64 0), (.int .i64 0), (.int .i64 0), (.int .i64 0), (.int .i64 0), (.int .i64 0), (.int .i64 0), (.int .i64 0), (.int .i64 0), (.int .i64 0), (.int .i64 0), (.int .i64 0), (.int .i64 0), (.int .i64 0), (.int .i64 0), (.int .i64 0), (.int .i64 0), (.int .i64 0), (.int .i64 0), (.int .i64 0), (.int .i64 0), (.int .i64 0), (.int .i64 0), (.int .i64 0), (.int .i64 0), (.int .i64 0), (.int .i64 0), (.int .i64 0), (.int .i64 0), (.int .i64 0), (.int .i64 0), (.int .i64 0), (.int .i64 0), (.int .i64 0), (.int .i64 0), (.int .i64 0), (.int .i64 0), (.int .i64 0), (.int .i64 0), (.int .i64 0), (.int .i64 0), (.int .i64 0), (.int .i64 0), (.int .i64 0), (.int .i64 0), (.int .i64 0), (.int .i64 0), (.int .i64 0), (.int .i64 0), (.int .i64 0), (.int .i64 0), (.int .i64 0), (.int .i64 0), (.int .i64 0), (.int .i64 0), (.int .i64 0), (.int .i64 0), (.int .i64 0), (.int .i64 0), (.int .i64 0), (.int .i64 0), (.int .i64 0), (.int .i64 0), (.int .i64 0), (.int .i64 0), (.int .i64 0), (.int .i64 0), (.int .i64 0), (.int .i64 0), (.int .i64 0), (.int .i64 0), (.int .i64 0), (.int .i64 0), (.int .i64 0), (.int .i64 0), (.int .i64 0), (.int .i64 0), (.int .i64 0), (.int .i64 0), (.int .i64 0), (.int .i64 0), (.int .i64 0), (.int .i64 0), (.int .i64 0), (.int .i64 0), (.int .i64 0), (.int .i64 0), (.int .i64 0), (.int .i64 0), (.int .i64 0), (.int .i64 0), (.int .i64 0), (.int .i64 0), (.int .i64 0), (.int .i64 0), (.int .i64 0), (.int .i64 0), (.int .i64 0), (.int .i64 0), (.int .i64 0), (.int .i64 0), (.int .i64 0), (.int .i64 0), (.int .i64 0), (.int .i64 0), (.int .i64 0), (.int .i64 0), (.int .i64 0), (.int .i64 0), (.int .i64 0), (.int .i64 0), (.int .i64 0), (.int .i64 0), (.int .i64 0), (.int .i64 0), (.int .i64 0), (.int .i64 0), (.int .i64 0), (.int .i64 0), (.int .i64 0), (.int .i64 0), (.int .i64 0), (.int .i64 0), (.int .i64 0), (.int .i64 0), (.int .i64 0), (.int .i64 0), (.int .i64 0), (.int .i64 0), (.int .i64 0), (.int .i64 0), (.int .i64 0), (.int .i64 0), (.int .i64 0), (.int .i64 0), (.int .i64 0), (.int .i64 0), (.int .i64 0), (.int .i64 0), (.int .i64 0), (.int .i64 0), (.int .i64 0), (.int .i64 0), (.int .i64 0), (.int .i64 0), (.int .i64 0), (.int .i64 0), (.int .i64 0), (.int .i64 0), (.int .i64 0), (.int .i64 0), (.int .i64 0), (.int .i64 0), (.int .i64 0), (.int .i64 0), (.int .i64 0), (.int .i64 0), (.int .i64 0), (.int .i64 0), (.int .i64 0), (.int .i64 0), (.int .i64 0), (.int .i64 0), (.int .i64 0), (.int .i64 0), (.int .i64 0), (.int .i64 0), (.int .i64 0), (.int .i64 0), (.int .i64 0), (.int .i64 0), (.int .i64 0), (.int .i64 0), (.int .i64 0), (.int .i64 0), (.int .i64 0), (.int .i64 0), (.int .i64 0), (.int .i64 0), (.int .i64 0), (.int .i64 0), (.int .i64 0), (.int .i64 0), (.int .i64 0), (.int .i64 0), (.int .i64 0), (.int .i64 0), (.int .i64 0), (.int .i64 0), (.int .i64 0), (.int .i64 0), (.int .i64 0), (.int .i64 0), (.int .i64 0), (.int .i64 0), (.int .i64 0), (.int .i64 0), (.int .i64 0), (.int .i64 0), (.int .i64 0), (.int .i64 0), (.int .i64 0), (.int .i64 0), (.int .i64 0), (.int .i64 0), (.int .i64 0), (.int .i64 0), (.int .i64 0), (.int .i64 0), (.int .i64 0), (.int .i64 0), (.int .i64 0), (.int .i64 0), (.int .i64 0), (.int .i64 0), (.int .i64 0), (.int .i64 0), (.int .i64 0), (.int .i64 0), (.int .i64 0), (.int .i64 0), (.int .i64 0), (.int .i64 0), (.int .i64 0), (.int .i64 0), (.int .i64 0), (.int .i64 0), (.int .i64 0), (.int .i64 0), (.int .i64 0), (.int .i64 0), (.int .i64 0), (.int .i64 0), (.int .i64 0), (.int .i64 0), (.int .i64 0), (.int .i64 0), (.int .i64 0), (.int .i64 0), (.int .i64 0), (.int .i64 0), (.int .i64 0), (.int .i64 0), (.int .i64 0), (.int .i64 0), (.int .i64 0), (.int .i64 0), (.int .i64 0), (.int .i64 0), (.int .i64 0), (.int .i64 0), (.int .i64 0), (.int .i64 0), (.int .i64 0), (.int .i64 0), (.int .i64 0), (.int .i64 0), (.int .i64 0), (.int .i64 0), (.int .i64 0), (.int .i64 0), (.int .i64 0), (.int .i64 0), (.int .i64 0), (.int .i64 0), (.int .i64 0), (.int .i64 0), (.int .i64 0), (.int .i64 0), (.int .i64 0), (.int .i64 0), (.int .i64 0), (.int .i64 0), (.int .i64 0), (.int .i64 0), (.int .i64 0), (.int .i64 0), (.int .i64 0), (.int .i64 0), (.int .i64 0), (.int .i64 0), (.int .i64 0), (.int .i64 0), (.int .i64 0), (.int .i64 0), (.int .i64 0), (.int .i64 0), (.int .i64 0), (.int .i64 0), (.int .i64 0), (.int .i64 0), (.int .i64 0), (.int .i64 0), (.int .i64 0), (.int .i64 0), (.int .i64 0), (.int .i64 0), (.int .i64 0), (.int .i64 0), (.int .i64 0), (.int .i64 0), (.int .i64 0), (.int .i64 0), (.int .i64 0), (.int .i64 0), (.int .i64 0), (.int .i64 0), (.int .i64 0), (.int .i64 0), (.int .i64 0), (.int .i64 0), (.int .i64 0), (.int .i64 0), (.int .i64 0), (.int .i64 0), (.int .i64 0), (.int .i64 0), (.int .i64 0), (.int .i64 0), (.int .i64 0), (.int .i64 0), (.int .i64 0), (.int .i64 0), (.int .i64 0), (.int .i64 0), (.int .i64 0), (.int .i64 0), (.int .i64 0), (.int .i64 0), (.int .i64 0), (.int .i64 0), (.int .i64 0), (.int .i64 0), (.int .i64 0), (.int .i64 0), (.int .i64 0), (.int .i64 0), (.int .i64 0), (.int .i64 0), (.int .i64 0), (.int .i64 0), (.int .i64 0), (.int .i64 0), (.int .i64 0), (.int .i64 0), (.int .i64 0), (.int .i64 0), (.int .i64 0), (.int .i64 0), (.int .i64 0), (.int .i64 0), (.int .i64 0), (.int .i64 0), (.int .i64 0), (.int .i64 0), (.int .i64 0), (.int .i64 0), (.int .i64 0), (.int .i64 0), (.int .i64 0), (.int .i64 0), (.int .i64 0), (.int .i64 0), (.int .i64 0), (.int .i64 0), (.int .i64 0), (.int .i64 0), (.int .i64 0), (.int .i64 0), (.int .i64 0), (.int .i64 0), (.int .i64 0), (.int .i64 0), (.int .i64 0), (.int .i64 0), (.int .i64 0), (.int .i64 0), (.int .i64 0), (.int .i64 0), (.int .i64 0), (.int .i64 0), (.int .i64 0), (.int .i64 0), (.int .i64 0), (.int .i64 0), (.int .i64 0), (.int .i64 0), (.int .i64 0), (.int .i64 0), (.int .i64 0), (.int .i64 0), (.int .i64 0), (.int .i64 0), (.int .i64 0), (.int .i64 0), (.int .i64 0), (.int .i64 0), (.int .i64 0), (.int .i64 0), (.int .i64 0), (.int .i64 0), (.int .i64 0), (.int .i64 0), (.int .i64 0), (.int .i64 0), (.int .i64 0), (.int .i64 0), (.int .i64 0), (.int .i64 0), (.int .i64 0), (.int .i64 0), (.int .i64 0), (.int .i64 0), (.int .i64 0), (.int .i64 0), (.int .i64 0), (.int .i64 0), (.int .i64 0), (.int .i64 0), (.int .i64 0), (.int .i64 0), (.int .i64 0), (.int .i64 0), (.int .i64 0), (.int .i64 0), (.int .i64 0), (.int .i64 0), (.int .i64 0), (.int .i64 0), (.int .i64 0), (.int .i64 0), (.int .i64 0), (.int .i64 0), (.int .i64 0), (.int .i64 0), (.int .i64 0), (.int .i64 0), (.int .i64 0), (.int .i64 0), (.int .i64 0), (.int .i64 0), (.int .i64 0), (.int .i64 0), (.int .i64 0), (.int .i64 0), (.int .i64 0), (.int .i64 0), (.int .i64 0), (.int .i64 0), (.int .i64 0), (.int .i64 0), (.int .i64 0), (.int .i64 0), (.int .i64 0), (.int .i64 0), (.int .i64 0), (.int .i64 0), (.int .i64 0), (.int .i64 0), (.int .i64 0), (.int .i64 0), (.int .i64 0), (.int .i64 0), (.int .i64 0), (.int .i64 0), (.int .i64 0), (.int .i64 0), (.int .i64 0), (.int .i64 0), (.int .i64 0), (.int .i64 0), (.int .i64 0), (.int .i64 0), (.int .i64 0), (.int .i64 0), (.int .i64 0), (.int .i64 0), (.int .i64 0), (.int .i64 0), (.int .i64 0), (.int .i64 0), (.int .i64 0), (.int .i64 0), (.int .i64 0), (.int .i64 0), (.int .i64 0), (.int .i64 0), (.int .i64 0), (.int .i64 0), (.int .i64 0), (.int .i64 0), (.int .i64 0), (.int .i64 0), (.int .i64 0), (.int .i64 0), (.int .i64 0), (.int .i64 0), (.int .i64 0), (.int .i64 0), (.int .i64 0), (.int .i64 0), (.int .i64 0), (.int .i64 0), (.int .i64 0), (.int .i64 0), (.int .i64 0), (.int .i64 0), (.int .i64 0), (.int .i64 0)], .none⟩]
def Tryd.fn15_r4 : List AIns :=
   [⟨(some 16), .mov (.t 1), .none⟩,
     ⟨(some 17), .lenl (.t 16), .none⟩,
     ⟨(some 18), .bin .add (.t 17) (.c (.int .i64 1)), .none⟩,
     ⟨(some 19), .mov (.c (.int .i64 0)), .none⟩]
def Tryd.fn15_r5 : List AIns :=
   [⟨(some 20), .bin .lss (.t 19) (.t 18), .none⟩]
def Tryd.fn15_r6 : List AIns :=
   [⟨(some 21), .mov (.t 19), .none⟩,
         ⟨(some 7), .mov (.t 21), .none⟩]
def Tryd.fn15_r7 : List AIns :=
   [⟨(some 22), .mov (.t 7), .none⟩,
        ⟨(some 23), .mov (.t 7), .none⟩,
        ⟨(some 24), .iaa 2 513 (.t 6) (.c (.int .i64 0)), .none⟩,
        ⟨(some 25), .iaa 513 1 (.t 24) (.t 22), .none⟩,
        ⟨.none, .st 1 (.t 25) (.t 23), .none⟩]
def Tryd.fn15_r8 : List AIns :=
   [⟨(some 26), .bin .add (.t 19) (.c (.int .i64 1)), .none⟩,
      ⟨(some 19), .mov (.t 26), .none⟩]
def Tryd.fn15_r9 : List AIns :=
   [⟨(some 27), .mov (.t 0), .none⟩,
     ⟨(some 28), .lenl (.t 27), .none⟩,
     ⟨(some 29), .mov (.c (.int .i64 0)), .none⟩]
def Tryd.fn15_r10 : List AIns :=
   [⟨(some 30), .bin .lss (.t 29) (.t 28), .none⟩]
def Tryd.fn15_r11 : List AIns :=
   [⟨(some 31), .mov (.t 29), .none⟩,
         ⟨(some 8), .mov (.t 31), .none⟩]
def Tryd.fn15_r12 : List AIns :=
   [⟨(some 32), .mov (.t 8), .none⟩,
         ⟨(some 33), .bin .rem (.t 32) (.c (.int .i64 2)), .none⟩,
         ⟨(some 34), .mov (.t 8), .none⟩,
         ⟨(some 35), .bin .add (.t 34) (.c (.int .i64 1)), .none⟩,
         ⟨(some 36), .bin .rem (.t 35) (.c (.int .i64 2)), .none⟩,
         ⟨(some 9), .mov (.t 33), .none⟩,
         ⟨(some 10), .mov (.t 36), .none⟩]
def Tryd.fn15_r13 : List AIns :=
   [⟨(some 37), .mov (.t 10), .none⟩,
         ⟨(some 38), .mov (.t 8), .none⟩,
         ⟨(some 39), .bin .add (.t 38) (.c (.int .i64 1)), .none⟩,
         ⟨(some 40), .iaa 2 513 (.t 6) (.t 37), .none⟩,
         ⟨(some 41), .iaa 513 1 (.t 40) (.c (.int .i64 0)), .none⟩,
         ⟨.none, .st 1 (.t 41) (.t 39), .none⟩]
def Tryd.fn15_r14 : List AIns :=
   [⟨(some 42), .mov (.t 1), .none⟩,
         ⟨(some 43), .lenl (.t 42), .none⟩,
         ⟨(some 44), .mov (.c (.int .i64 0)), .none⟩]
def Tryd.fn15_r15 : List AIns :=
   [⟨(some 45), .bin .lss (.t 44) (.t 43), .none⟩]
def Tryd.fn15_r16 : List AIns :=
   [⟨(some 46), .mov (.t 44), .none⟩,
             ⟨(some 11), .mov (.t 46), .none⟩]
def Tryd.fn15_r17a : List DIns :=
   ⟨⟨(some 53), .ia 1 (.t 51) (.t 52), .none⟩, [4, 5], [7, 8], 0⟩ ::
   ⟨⟨(some 54), .ld1 (.t 53), .none⟩, [6, 4, 5], [8], 1⟩ ::
   ⟨⟨(some 55), .bin .eql (.t 50) (.t 54), .none⟩, [3, 7, 2, 0, 1, 6, 4, 5], [], 0⟩ ::
   []
def Tryd.fn15_r17 : List DIns :=
   ⟨⟨(some 47), .mov (.t 0), .none⟩, [], [2, 3, 8], 0⟩ ::
   ⟨⟨(some 48), .mov (.t 8), .none⟩, [], [2, 3, 8], 0⟩ ::
   ⟨⟨(some 49), .ia 1 (.t 47) (.t 48), .none⟩, [0, 1], [3, 8], 0⟩ ::
   ⟨⟨(some 50), .ld1 (.t 49), .none⟩, [2, 0, 1], [8], 1⟩ ::
   ⟨⟨(some 51), .mov (.t 1), .none⟩, [], [6, 7, 8], 0⟩ ::
   ⟨⟨(some 52), .mov (.t 11), .none⟩, [], [6, 7, 8], 0⟩ ::
   Tryd.fn15_r17a
def Tryd.fn15_r18a : List DIns :=
   ⟨⟨(some 62), .iaa 513 1 (.t 61) (.t 60), .none⟩, [5, 4, 3], [7, 9, 10], 0⟩ ::
   ⟨⟨(some 63), .ld1 (.t 62), .none⟩, [6, 5, 4, 3], [9, 10], 2⟩ ::
   ⟨⟨(some 64), .iaa 2 513 (.t 6) (.t 56), .none⟩, [0], [9, 10], 0⟩ ::
   ⟨⟨(some 65), .iaa 513 1 (.t 64) (.t 58), .none⟩, [8, 2, 0, 1, 3, 4, 5, 6, 7], [10], 0⟩ ::
   ⟨⟨.none, .st 1 (.t 65) (.t 63), .none⟩, [9, 7, 0, 1, 2, 3, 4, 5, 6, 8], [], 2⟩ ::
   []
def Tryd.fn15_r18 : List DIns :=
   ⟨⟨(some 56), .mov (.t 10), .none⟩, [], [8, 9, 10], 0⟩ ::
   ⟨⟨(some 57), .mov (.t 11), .none⟩, [], [2, 9, 10], 0⟩ ::
   ⟨⟨(some 58), .bin .add (.t 57) (.c (.int .i64 1)), .none⟩, [1], [9, 10], 0⟩ ::
   ⟨⟨(some 59), .mov (.t 9), .none⟩, [], [5, 6, 7, 9, 10], 0⟩ ::
   ⟨⟨(some 60), .mov (.t 11), .none⟩, [], [6, 7, 9, 10], 0⟩ ::
   ⟨⟨(some 61), .iaa 2 513 (.t 6) (.t 59), .none⟩, [3], [6, 7, 9, 10], 0⟩ ::
   Tryd.fn15_r18a
def Tryd.fn15_r19c : List DIns :=
   ⟨⟨.none, .st 1 (.t 83) (.t 81), .none⟩, [17, 15, 0, 1, 2, 3, 4, 5, 6, 7, 8, 9, 10, 11, 12, 13, 14, 16], [], 2⟩ ::
   []
def Tryd.fn15_r19b : List DIns :=
   ⟨⟨(some 78), .iaa 513 1 (.t 77) (.t 76), .none⟩, [11, 10, 9], [13, 14, 15, 17, 18], 0⟩ ::
   ⟨⟨(some 79), .ld1 (.t 78), .none⟩, [12, 11, 10, 9], [14, 15, 17, 18], 1⟩ ::
   ⟨⟨(some 80), .mn (.t 74) (.t 79), .none⟩, [8, 13, 7, 6, 5, 3, 4, 12, 11, 10, 9], [15, 17, 18], 0⟩ ::
   ⟨⟨(some 81), .bin .add (.c (.int .i64 1)) (.t 80), .none⟩, [14, 8, 13, 7, 6, 5, 3, 4, 12, 11, 10, 9], [17, 18], 0⟩ ::
   ⟨⟨(some 82), .iaa 2 513 (.t 6) (.t 66), .none⟩, [0], [17, 18], 0⟩ ::
   ⟨⟨(some 83), .iaa 513 1 (.t 82) (.t 68), .none⟩, [16, 2, 0, 1, 3, 4, 5, 6, 7, 8, 9, 10, 11, 12, 13, 14, 15], [18], 0⟩ ::
   Tryd.fn15_r19c
def Tryd.fn15_r19a : List DIns :=
   ⟨⟨(some 72), .iaa 2 513 (.t 6) (.t 69), .none⟩, [3], [7, 8, 14, 15, 17, 18], 0⟩ ::
   ⟨⟨(some 73), .iaa 513 1 (.t 72) (.t 71), .none⟩, [6, 5, 3, 4], [8, 14, 15, 17, 18], 0⟩ ::
   ⟨⟨(some 74), .ld1 (.t 73), .none⟩, [7, 6, 5, 3, 4], [14, 15, 17, 18], 1⟩ ::
   ⟨⟨(some 75), .mov (.t 10), .none⟩, [], [11, 12, 13, 14, 15, 17, 18], 0⟩ ::
   ⟨⟨(some 76), .mov (.t 11), .none⟩, [], [12, 13, 14, 15, 17, 18], 0⟩ ::
   ⟨⟨(some 77), .iaa 2 513 (.t 6) (.t 75), .none⟩, [9], [12, 13, 14, 15, 17, 18], 0⟩ ::
   Tryd.fn15_r19b
def Tryd.fn15_r19 : List DIns :=
   ⟨⟨(some 66), .mov (.t 10), .none⟩, [], [16, 17, 18], 0⟩ ::
   ⟨⟨(some 67), .mov (.t 11), .none⟩, [], [2, 17, 18], 0⟩ ::
   ⟨⟨(some 68), .bin .add (.t 67) (.c (.int .i64 1)), .none⟩, [1], [17, 18], 0⟩ ::
   ⟨⟨(some 69), .mov (.t 9), .none⟩, [], [6, 7, 8, 14, 15, 17, 18], 0⟩ ::
   ⟨⟨(some 70), .mov (.t 11), .none⟩, [], [5, 7, 8, 14, 15, 17, 18], 0⟩ ::
   ⟨⟨(some 71), .bin .add (.t 70) (.c (.int .i64 1)), .none⟩, [4], [7, 8, 14, 15, 17, 18], 0⟩ ::
   Tryd.fn15_r19a
def Tryd.fn15_r20 : List AIns :=
   [⟨(some 84), .bin .add (.t 44) (.c (.int .i64 1)), .none⟩,
          ⟨(some 44), .mov (.t 84), .none⟩]
def Tryd.fn15_r21 : List AIns :=
   [⟨(some 85), .bin .add (.t 29) (.c (.int .i64 1)), .none⟩,
      ⟨(some 29), .mov (.t 85), .none⟩]
def Tryd.fn15_r22 : List AIns :=
   [⟨(some 86), .mov (.t 0), .none⟩,
    ⟨(some 87), .lenl (.t 86), .none⟩,
    ⟨(some 88), .bin .rem (.t 87) (.c (.int .i64 2)), .none⟩,
    ⟨(some 89), .mov (.t 1), .none⟩,
    ⟨(some 90), .lenl (.t 89), .none⟩,
    ⟨(some 91), .iaa 2 513 (.t 6) (.t 88), .none⟩,
    ⟨(some 92), .iaa 513 1 (.t 91) (.t 90), .none⟩,
    ⟨(some 93), .ld1 (.t 92), .none⟩,
    ⟨(some 4), .mov (.t 93), .none⟩,
    ⟨(some 5), .mov (.c (.int .i64 0)), .none⟩]
def Tryd.fn15_l0 : ACode :=
 (.seq (.seq (.reg Tryd.fn15_r15)
         (.trim [0, 1, 6, 8, 9, 10, 28, 29, 43, 44, 45]))
        (.seq (.cond (.t 45)
          .skip
          (.exit 4))
        (.seq (.block 5
          (.seq (.seq (.reg Tryd.fn15_r16)
           (.trim [0, 1, 6, 8, 9, 10, 11, 28, 29, 43, 44]))
          (.seq (.seq (.regd Tryd.fn15_r17)
           (.trim [0, 1, 6, 8, 9, 10, 11, 28, 29, 43, 44, 55]))
          (.cond (.t 55)
           (.seq (.regd Tryd.fn15_r18)
           (.trim [0, 1, 6, 8, 9, 10, 28, 29, 43, 44]))
           (.seq (.regd Tryd.fn15_r19)
           (.trim [0, 1, 6, 8, 9, 10, 28, 29, 43, 44]))))))
        (.seq (.reg Tryd.fn15_r20)
        (.trim [0, 1, 6, 8, 9, 10, 28, 29, 43, 44])))))
def Tryd.fn15_l1 : ACode :=
 (.seq (.seq (.reg Tryd.fn15_r10)
     (.trim [0, 1, 6, 28, 29, 30]))
    (.seq (.cond (.t 30)
      .skip
      (.exit 2))
    (.seq (.block 3
      (.seq (.seq (.reg Tryd.fn15_r11)
       (.trim [0, 1, 6, 8, 28, 29]))
      (.seq (.seq (.reg Tryd.fn15_r12)
       (.trim [0, 1, 6, 8, 9, 10, 28, 29]))
      (.seq (.seq (.reg Tryd.fn15_r13)
       (.trim [0, 1, 6, 8, 9, 10, 28, 29]))
      (.seq (.seq (.reg Tryd.fn15_r14)
       (.trim [0, 1, 6, 8, 9, 10, 28, 29, 43, 44]))
      (.block 4
       (.loop (some [0, 1, 6, 8, 9, 10, 28, 29, 43, 44])
        Tryd.fn15_l0)))))))
    (.seq (.reg Tryd.fn15_r21)
    (.trim [0, 1, 6, 28, 29])))))
def Tryd.fn15_l2 : ACode :=
 (.seq (.seq (.reg Tryd.fn15_r5)
     (.trim [0, 1, 6, 18, 19, 20]))
    (.seq (.cond (.t 20)
      .skip
      (.exit 0))
    (.seq (.block 1
      (.seq (.seq (.reg Tryd.fn15_r6)
       (.trim [0, 1, 6, 7, 18, 19]))
      (.seq (.reg Tryd.fn15_r7)
      (.trim [0, 1, 6, 18, 19]))))
    (.seq (.reg Tryd.fn15_r8)
    (.trim [0, 1, 6, 18, 19])))))
def Tryd.fn15 : AFun :=
 ⟨94, [.tmp 4, .tmp 5],
 (.seq (.seq (.reg Tryd.fn15_r0)
  (.trim [0, 1]))
 (.seq (.seq (.seq (.reg Tryd.fn15_r1)
   (.trim [0, 1, 15]))
  (.cond (.t 15)
   (.seq (.seq (.reg Tryd.fn15_r2)
    (.trim [4, 5]))
   .ret)
   .skip))
 (.seq (.seq (.reg Tryd.fn15_r3)
  (.trim [0, 1, 6]))
 (.seq (.seq (.seq (.reg Tryd.fn15_r4)
   (.trim [0, 1, 6, 18, 19]))
  (.block 0
   (.loop (some [0, 1, 6, 18, 19])
    Tryd.fn15_l2)))
 (.seq (.seq (.seq (.reg Tryd.fn15_r9)
   (.trim [0, 1, 6, 28, 29]))
  (.block 2
   (.loop (some [0, 1, 6, 28, 29])
    Tryd.fn15_l1)))
 (.seq (.seq (.reg Tryd.fn15_r22)
  (.trim [4, 5]))
 .ret)))))), true⟩
/-! signalbench/signalbenchlaw55.counts -/
def Tryd.fn16_r0 : List AIns :=
   [⟨(some 6), .mov (.c (.int .i64 0)), .none⟩,
    ⟨(some 7), .mov (.c (.int .i64 0)), .none⟩,
    ⟨(some 8), .mov (.c (.int .i64 0)), .none⟩,
    ⟨(some 9), .mov (.c (.bool false)), .none⟩]
def Tryd.fn16_r1 : List AIns :=
   [⟨(some 10), .mov (.c (.int .i64 0)), .none⟩,
    ⟨(some 11), .mov (.c (.int .i64 0)), .none⟩,
    ⟨(some 12), .mov (.c (.int .i64 0)), .none⟩]
def Tryd.fn16_r2 : List AIns :=
   [⟨(some 13), .mov (.c (.int .i64 0)), .none⟩]
def Tryd.fn16_r3 : List AIns :=
   [⟨(some 15), .mov (.t 13), .none⟩,
        ⟨(some 16), .mov (.t 2), .none⟩,
        ⟨(some 17), .lenl (.t 16), .none⟩,
        ⟨(some 18), .bin .lss (.t 15) (.t 17), .none⟩]
def Tryd.fn16_r4 : List AIns :=
   [⟨(some 21), .mov (.t 2), .none⟩,
         ⟨(some 22), .mov (.t 13), .none⟩,
         ⟨(some 23), .ia 3 (.t 21) (.t 22), .none⟩,
         ⟨(some 24), .ldn 3 (.t 23), .none⟩,
         ⟨(some 14), .alloc 48 [(.int .i64 0), (.int .i64 0), (.int .i64 0)], .none⟩,
         ⟨.none, .st 3 (.t 14) (.t 24), .none⟩]
def Tryd.fn16_r5 : List AIns :=
   [⟨(some 25), .fa 0 (.t 14), .none⟩,
          ⟨(some 26), .ld1 (.t 25), .none⟩,
          ⟨(some 27), .bin .eql (.t 26) (.c (.int .i64 1)), .none⟩,
          ⟨(some 28), .mov (.t 27), .none⟩,
          ⟨(some 29), .fa 1 (.t 14), (some (28, true))⟩,
          ⟨(some 30), .ld1 (.t 29), (some (28, true))⟩,
          ⟨(some 31), .bin .geq (.t 30) (.c (.int .i64 0)), (some (28, true))⟩,
          ⟨(some 32), .pick (.t 28) (.t 31) (.c (.bool false)), .none⟩,
          ⟨(some 33), .mov (.t 32), .none⟩,
          ⟨(some 34), .fa 1 (.t 14), (some (33, true))⟩]
def Tryd.fn16_r6 : List AIns :=
   [⟨(some 35), .ld1 (.t 34), (some (33, true))⟩,
         ⟨(some 36), .mov (.t 0), (some (33, true))⟩,
         ⟨(some 37), .lenl (.t 36), (some (33, true))⟩,
         ⟨(some 38), .bin .lss (.t 35) (.t 37), (some (33, true))⟩,
         ⟨(some 39), .pick (.t 33) (.t 38) (.c (.bool false)), .none⟩,
         ⟨(some 40), .mov (.t 39), .none⟩,
         ⟨(some 41), .fa 2 (.t 14), (some (40, true))⟩,
         ⟨(some 42), .ld1 (.t 41), (some (40, true))⟩,
         ⟨(some 43), .bin .eql (.t 42) (.c (.int .i64 (-1))), (some (40, true))⟩,
         ⟨(some 44), .pick (.t 40) (.t 43) (.c (.bool false)), .none⟩]
def Tryd.fn16_r7 : List AIns :=
   [⟨(some 45), .mov (.t 10), .none⟩,
         ⟨(some 46), .bin .add (.t 45) (.c (.int .i64 1)), .none⟩,
         ⟨(some 10), .mov (.t 46), .none⟩]
def Tryd.fn16_r8 : List AIns :=
   [⟨(some 47), .fa 0 (.t 14), .none⟩,
           ⟨(some 48), .ld1 (.t 47), .none⟩,
           ⟨(some 49), .bin .eql (.t 48) (.c (.int .i64 2)), .none⟩,
           ⟨(some 50), .mov (.t 49), .none⟩,
           ⟨(some 51), .fa 1 (.t 14), (some (50, true))⟩,
           ⟨(some 52), .ld1 (.t 51), (some (50, true))⟩,
           ⟨(some 53), .bin .eql (.t 52) (.c (.int .i64 (-1))), (some (50, true))⟩,
           ⟨(some 54), .pick (.t 50) (.t 53) (.c (.bool false)), .none⟩,
           ⟨(some 55), .mov (.t 54), .none⟩,
           ⟨(some 56), .fa 2 (.t 14), (some (55, true))⟩]
def Tryd.fn16_r9 : List AIns :=
   [⟨(some 57), .ld1 (.t 56), (some (55, true))⟩,
          ⟨(some 58), .bin .geq (.t 57) (.c (.int .i64 0)), (some (55, true))⟩,
          ⟨(some 59), .pick (.t 55) (.t 58) (.c (.bool false)), .none⟩,
          ⟨(some 60), .mov (.t 59), .none⟩,
          ⟨(some 61), .fa 2 (.t 14), (some (60, true))⟩,
          ⟨(some 62), .ld1 (.t 61), (some (60, true))⟩,
          ⟨(some 63), .mov (.t 1), (some (60, true))⟩,
          ⟨(some 64), .lenl (.t 63), (some (60, true))⟩,
          ⟨(some 65), .bin .lss (.t 62) (.t 64), (some (60, true))⟩,
          ⟨(some 66), .pick (.t 60) (.t 65) (.c (.bool false)), .none⟩]
def Tryd.fn16_r10 : List AIns :=
   [⟨(some 67), .mov (.t 11), .none⟩,
          ⟨(some 68), .bin .add (.t 67) (.c (.int .i64 1)), .none⟩,
          ⟨(some 11), .mov (.t 68), .none⟩]
def Tryd.fn16_r11 : List AIns :=
   [⟨(some 69), .fa 0 (.t 14), .none⟩,
            ⟨(some 70), .ld1 (.t 69), .none⟩,
            ⟨(some 71), .bin .eql (.t 70) (.c (.int .i64 3)), .none⟩,
            ⟨(some 72), .mov (.t 71), .none⟩,
            ⟨(some 73), .fa 1 (.t 14), (some (72, true))⟩,
            ⟨(some 74), .ld1 (.t 73), (some (72, true))⟩,
            ⟨(some 75), .bin .geq (.t 74) (.c (.int .i64 0)), (some (72, true))⟩,
            ⟨(some 76), .pick (.t 72) (.t 75) (.c (.bool false)), .none⟩,
            ⟨(some 77), .mov (.t 76), .none⟩,
            ⟨(some 78), .fa 1 (.t 14), (some (77, true))⟩]
def Tryd.fn16_r12 : List AIns :=
   [⟨(some 79), .ld1 (.t 78), (some (77, true))⟩,
            ⟨(some 80), .mov (.t 0), (some (77, true))⟩,
            ⟨(some 81), .lenl (.t 80), (some (77, true))⟩,
            ⟨(some 82), .bin .lss (.t 79) (.t 81), (some (77, true))⟩,
            ⟨(some 83), .pick (.t 77) (.t 82) (.c (.bool false)), .none⟩,
            ⟨(some 84), .mov (.t 83), .none⟩,
            ⟨(some 85), .fa 2 (.t 14), (some (84, true))⟩,
            ⟨(some 86), .ld1 (.t 85), (some (84, true))⟩,
            ⟨(some 87), .bin .geq (.t 86) (.c (.int .i64 0)), (some (84, true))⟩,
            ⟨(some 88), .pick (.t 84) (.t 87) (.c (.bool false)), .none⟩]
def Tryd.fn16_r13 : List AIns :=
   [⟨(some 89), .mov (.t 88), .none⟩,
           ⟨(some 90), .fa 2 (.t 14), (some (89, true))⟩,
           ⟨(some 91), .ld1 (.t 90), (some (89, true))⟩,
           ⟨(some 92), .mov (.t 1), (some (89, true))⟩,
           ⟨(some 93), .lenl (.t 92), (some (89, true))⟩,
           ⟨(some 94), .bin .lss (.t 91) (.t 93), (some (89, true))⟩,
           ⟨(some 95), .pick (.t 89) (.t 94) (.c (.bool false)), .none⟩]
def Tryd.fn16_r14b : List DIns :=
   ⟨⟨(some 108), .bin .neq (.t 101) (.t 107), .none⟩, [5, 11, 4, 3, 0, 2, 1, 10, 9, 6, 8, 7], [], 0⟩ ::
   []
def Tryd.fn16_r14a : List DIns :=
   ⟨⟨(some 102), .mov (.t 1), .none⟩, [], [9, 10, 11, 12], 0⟩ ::
   ⟨⟨(some 103), .fa 2 (.t 14), .none⟩, [], [8, 9, 10, 11, 12], 0⟩ ::
   ⟨⟨(some 104), .ld1 (.t 103), .none⟩, [7], [9, 10, 11, 12], 1⟩ ::
   ⟨⟨(some 105), .ia 7 (.t 102) (.t 104), .none⟩, [6, 8, 7], [10, 11, 12], 0⟩ ::
   ⟨⟨(some 106), .ldn 7 (.t 105), .none⟩, [9, 6, 8, 7], [11, 12], 1⟩ ::
   ⟨⟨(some 107), .call 7 [(.t 106)], .none⟩, [10, 5, 9, 6, 8, 7, 4, 3, 0, 2, 1], [12], 2⟩ ::
   Tryd.fn16_r14b
def Tryd.fn16_r14 : List DIns :=
   ⟨⟨(some 96), .mov (.t 0), .none⟩, [], [3, 4, 5, 11, 12], 0⟩ ::
   ⟨⟨(some 97), .fa 1 (.t 14), .none⟩, [], [2, 3, 4, 5, 11, 12], 0⟩ ::
   ⟨⟨(some 98), .ld1 (.t 97), .none⟩, [1], [3, 4, 5, 11, 12], 1⟩ ::
   ⟨⟨(some 99), .ia 7 (.t 96) (.t 98), .none⟩, [0, 2, 1], [4, 5, 11, 12], 0⟩ ::
   ⟨⟨(some 100), .ldn 7 (.t 99), .none⟩, [3, 0, 2, 1], [5, 11, 12], 1⟩ ::
   ⟨⟨(some 101), .call 7 [(.t 100)], .none⟩, [4, 3, 0, 2, 1], [11, 12], 1⟩ ::
   Tryd.fn16_r14a
def Tryd.fn16_r15 : List AIns :=
   [⟨(some 6), .mov (.c (.int .i64 0)), .none⟩,
              ⟨(some 7), .mov (.c (.int .i64 0)), .none⟩,
              ⟨(some 8), .mov (.c (.int .i64 0)), .none⟩,
              ⟨(some 9), .mov (.c (.bool false)), .none⟩]
def Tryd.fn16_r16 : List AIns :=
   [⟨(some 109), .mov (.t 12), .none⟩,
           ⟨(some 110), .bin .add (.t 109) (.c (.int .i64 1)), .none⟩,
           ⟨(some 12), .mov (.t 110), .none⟩]
def Tryd.fn16_r17 : List AIns :=
   [⟨(some 6), .mov (.c (.int .i64 0)), .none⟩,
            ⟨(some 7), .mov (.c (.int .i64 0)), .none⟩,
            ⟨(some 8), .mov (.c (.int .i64 0)), .none⟩,
            ⟨(some 9), .mov (.c (.bool false)), .none⟩]
def Tryd.fn16_r18 : List AIns :=
   [⟨(some 19), .mov (.t 13), .none⟩,
      ⟨(some 20), .bin .add (.t 19) (.c (.int .i64 1)), .none⟩,
      ⟨(some 13), .mov (.t 20), .none⟩]
def Tryd.fn16_r19 : List AIns :=
   [⟨(some 111), .mov (.t 10), .none⟩,
    ⟨(some 112), .mov (.t 11), .none⟩,
    ⟨(some 113), .mov (.t 12), .none⟩,
    ⟨(some 6), .mov (.t 111), .none⟩,
    ⟨(some 7), .mov (.t 112), .none⟩,
    ⟨(some 8), .mov (.t 113), .none⟩,
    ⟨(some 9), .mov (.c (.bool true)), .none⟩]
def Tryd.fn16_l0 : ACode :=
 (.seq (.seq (.seq (.reg Tryd.fn16_r3)
      (.trim [0, 1, 2, 10, 11, 12, 13, 18]))
     (.cond (.t 18)
      .skip
      (.exit 0)))
    (.seq (.block 1
      (.seq (.seq (.reg Tryd.fn16_r4)
       (.trim [0, 1, 2, 10, 11, 12, 13, 14]))
      (.seq (.seq (.seq (.reg Tryd.fn16_r5)
        (.trim [0, 1, 2, 10, 11, 12, 13, 14, 33, 34]))
       (.seq (.reg Tryd.fn16_r6)
       (.trim [0, 1, 2, 10, 11, 12, 13, 14, 44])))
      (.cond (.t 44)
       (.seq (.reg Tryd.fn16_r7)
       (.trim [0, 1, 2, 10, 11, 12, 13]))
       (.seq (.seq (.seq (.reg Tryd.fn16_r8)
         (.trim [0, 1, 2, 10, 11, 12, 13, 14, 55, 56]))
        (.seq (.reg Tryd.fn16_r9)
        (.trim [0, 1, 2, 10, 11, 12, 13, 14, 66])))
       (.cond (.t 66)
        (.seq (.reg Tryd.fn16_r10)
        (.trim [0, 1, 2, 10, 11, 12, 13]))
        (.seq (.seq (.seq (.reg Tryd.fn16_r11)
          (.trim [0, 1, 2, 10, 11, 12, 13, 14, 77, 78]))
         (.seq (.seq (.reg Tryd.fn16_r12)
          (.trim [0, 1, 2, 10, 11, 12, 13, 14, 88]))
         (.seq (.reg Tryd.fn16_r13)
         (.trim [0, 1, 2, 10, 11, 12, 13, 14, 95]))))
        (.cond (.t 95)
         (.seq (.seq (.seq (.regd Tryd.fn16_r14)
           (.trim [0, 1, 2, 10, 11, 12, 13, 108]))
          (.cond (.t 108)
           (.seq (.seq (.reg Tryd.fn16_r15)
            (.trim [6, 7, 8, 9]))
           .ret)
           .skip))
         (.seq (.reg Tryd.fn16_r16)
         (.trim [0, 1, 2, 10, 11, 12, 13])))
         (.seq (.seq (.reg Tryd.fn16_r17)
          (.trim [6, 7, 8, 9]))
         .ret)))))))))
    (.seq (.reg Tryd.fn16_r18)
    (.trim [0, 1, 2, 10, 11, 12, 13]))))
def Tryd.fn16 : AFun :=
 ⟨114, [.tmp 6, .tmp 7, .tmp 8, .tmp 9],
 (.seq (.seq (.reg Tryd.fn16_r0)
  (.trim [0, 1, 2]))
 (.seq (.seq (.reg Tryd.fn16_r1)
  (.trim [0, 1, 2, 10, 11, 12]))
 (.seq (.seq (.seq (.reg Tryd.fn16_r2)
   (.trim [0, 1, 2, 10, 11, 12, 13]))
  (.block 0
   (.loop (some [0, 1, 2, 10, 11, 12, 13])
    Tryd.fn16_l0)))
 (.seq (.seq (.reg Tryd.fn16_r19)
  (.trim [6, 7, 8, 9]))
 .ret)))), true⟩
/-! signalbench/event.Valid -/
def Tryd.fn17_r0 : List AIns :=
   [⟨(some 1), .box 23 (.t 0), .none⟩,
    ⟨(some 2), .mov (.c (.bool false)), .none⟩]
def Tryd.fn17_r1 : List AIns :=
   [⟨(some 4), .fa 0 (.t 1), .none⟩,
      ⟨(some 5), .ld1 (.t 4), .none⟩,
      ⟨(some 6), .bin .lss (.t 5) (.c (.int .i64 1)), .none⟩,
      ⟨(some 7), .mov (.t 6), .none⟩,
      ⟨(some 8), .fa 0 (.t 1), (some (7, false))⟩,
      ⟨(some 9), .ld1 (.t 8), (some (7, false))⟩,
      ⟨(some 10), .bin .gtr (.t 9) (.c (.int .i64 8)), (some (7, false))⟩,
      ⟨(some 11), .pick (.t 7) (.c (.bool true)) (.t 10), .none⟩,
      ⟨(some 3), .mov (.t 11), .none⟩]
def Tryd.fn17_r2 : List AIns :=
   [⟨(some 2), .mov (.c (.bool false)), .none⟩]
def Tryd.fn17_r3 : List AIns :=
   [⟨(some 13), .fa 1 (.t 1), .none⟩,
        ⟨(some 14), .ld1 (.t 13), .none⟩,
        ⟨(some 15), .bin .lss (.t 14) (.c (.int .i64 0)), .none⟩,
        ⟨(some 16), .mov (.t 15), .none⟩,
        ⟨(some 17), .fa 1 (.t 1), (some (16, false))⟩,
        ⟨(some 18), .ld1 (.t 17), (some (16, false))⟩,
        ⟨(some 19), .fa 2 (.t 1), (some (16, false))⟩,
        ⟨(some 20), .ld1 (.t 19), (some (16, false))⟩,
        ⟨(some 21), .bin .gtr (.t 18) (.t 20), (some (16, false))⟩,
        ⟨(some 22), .pick (.t 16) (.c (.bool true)) (.t 21), .none⟩]
def Tryd.fn17_r4 : List AIns :=
   [⟨(some 23), .mov (.t 22), .none⟩,
       ⟨(some 24), .fa 2 (.t 1), (some (23, false))⟩,
       ⟨(some 25), .ld1 (.t 24), (some (23, false))⟩,
       ⟨(some 26), .bin .gtr (.t 25) (.c (.int .i64 1099511627776)), (some (23, false))⟩,
       ⟨(some 27), .pick (.t 23) (.c (.bool true)) (.t 26), .none⟩,
       ⟨(some 12), .mov (.t 27), .none⟩]
def Tryd.fn17_r5 : List AIns :=
   [⟨(some 2), .mov (.c (.bool false)), .none⟩]
def Tryd.fn17_r6 : List AIns :=
   [⟨(some 29), .fa 3 (.t 1), .none⟩,
         ⟨(some 30), .ld1 (.t 29), .none⟩,
         ⟨(some 31), .bin .lss (.t 30) (.c (.int .i64 (-9007199254740992))), .none⟩,
         ⟨(some 32), .mov (.t 31), .none⟩,
         ⟨(some 33), .fa 3 (.t 1), (some (32, false))⟩,
         ⟨(some 34), .ld1 (.t 33), (some (32, false))⟩,
         ⟨(some 35), .bin .gtr (.t 34) (.c (.int .i64 9007199254740992)), (some (32, false))⟩,
         ⟨(some 36), .pick (.t 32) (.c (.bool true)) (.t 35), .none⟩,
         ⟨(some 37), .mov (.t 36), .none⟩,
         ⟨(some 38), .fa 4 (.t 1), (some (37, false))⟩]
def Tryd.fn17_r7 : List AIns :=
   [⟨(some 39), .ld1 (.t 38), (some (37, false))⟩,
        ⟨(some 40), .bin .lss (.t 39) (.c (.int .i64 (-9007199254740992))), (some (37, false))⟩,
        ⟨(some 41), .pick (.t 37) (.c (.bool true)) (.t 40), .none⟩,
        ⟨(some 42), .mov (.t 41), .none⟩,
        ⟨(some 43), .fa 4 (.t 1), (some (42, false))⟩,
        ⟨(some 44), .ld1 (.t 43), (some (42, false))⟩,
        ⟨(some 45), .bin .gtr (.t 44) (.c (.int .i64 9007199254740992)), (some (42, false))⟩,
        ⟨(some 46), .pick (.t 42) (.c (.bool true)) (.t 45), .none⟩,
        ⟨(some 28), .mov (.t 46), .none⟩]
def Tryd.fn17_r8 : List AIns :=
   [⟨(some 2), .mov (.c (.bool false)), .none⟩]
def Tryd.fn17_r9 : List AIns :=
   [⟨(some 47), .fa 5 (.t 1), .none⟩,
     ⟨(some 48), .ld1 (.t 47), .none⟩,
     ⟨(some 49), .lens (.t 48), .none⟩,
     ⟨(some 50), .bin .leq (.t 49) (.c (.int .i64 4096)), .none⟩,
     ⟨(some 51), .mov (.t 50), .none⟩,
     ⟨(some 52), .fa 6 (.t 1), (some (51, true))⟩,
     ⟨(some 53), .ld1 (.t 52), (some (51, true))⟩,
     ⟨(some 54), .bin .geq (.t 53) (.c (.int .i64 0)), (some (51, true))⟩,
     ⟨(some 55), .pick (.t 51) (.t 54) (.c (.bool false)), .none⟩,
     ⟨(some 56), .mov (.t 55), .none⟩]
def Tryd.fn17_r10 : List AIns :=
   [⟨(some 57), .fa 6 (.t 1), (some (56, true))⟩,
    ⟨(some 58), .ld1 (.t 57), (some (56, true))⟩,
    ⟨(some 59), .bin .leq (.t 58) (.c (.int .i64 12)), (some (56, true))⟩,
    ⟨(some 60), .pick (.t 56) (.t 59) (.c (.bool false)), .none⟩,
    ⟨(some 2), .mov (.t 60), .none⟩]
def Tryd.fn17 : AFun :=
 ⟨61, [.tmp 2],
 (.seq (.seq (.reg Tryd.fn17_r0)
  (.trim [1]))
 (.seq (.block 0
   (.seq (.seq (.reg Tryd.fn17_r1)
    (.trim [1, 3]))
   (.cond (.t 3)
    (.seq (.seq (.reg Tryd.fn17_r2)
     (.trim [2]))
    .ret)
    (.seq (.seq (.seq (.reg Tryd.fn17_r3)
      (.trim [1, 22]))
     (.seq (.reg Tryd.fn17_r4)
     (.trim [1, 12])))
    (.cond (.t 12)
     (.seq (.seq (.reg Tryd.fn17_r5)
      (.trim [2]))
     .ret)
     (.seq (.seq (.seq (.reg Tryd.fn17_r6)
       (.trim [1, 37, 38]))
      (.seq (.reg Tryd.fn17_r7)
      (.trim [1, 28])))
     (.cond (.t 28)
      (.seq (.seq (.reg Tryd.fn17_r8)
       (.trim [2]))
      .ret)
      .skip)))))))
 (.seq (.seq (.seq (.reg Tryd.fn17_r9)
   (.trim [1, 56]))
  (.seq (.reg Tryd.fn17_r10)
  (.trim [2])))
 .ret))), true⟩
/-! signalbench/event.Shift -/
def Tryd.fn18_r0 : List AIns :=
   [⟨(some 4), .mov (.c .nils), .none⟩,
    ⟨(some 5), .mov (.c (.int .i64 0)), .none⟩]
def Tryd.fn18_r1 : List AIns :=
   [⟨(some 10), .mov (.t 0), .none⟩,
     ⟨(some 11), .lenl (.t 10), .none⟩,
     ⟨(some 12), .mov (.c (.int .i64 0)), .none⟩]
def Tryd.fn18_r2 : List AIns :=
   [⟨(some 13), .bin .lss (.t 12) (.t 11), .none⟩]
def Tryd.fn18_r3 : List AIns :=
   [⟨(some 14), .ia 7 (.t 10) (.t 12), .none⟩,
         ⟨(some 15), .ldn 7 (.t 14), .none⟩,
         ⟨(some 7), .alloc 23 [(.int .i64 0), (.int .i64 0), (.int .i64 0), (.int .i64 0), (.int .i64 0), (.str []), (.int .i64 0)], .none⟩,
         ⟨.none, .st 7 (.t 7) (.t 15), .none⟩]
def Tryd.fn18_r4 : List AIns :=
   [⟨(some 16), .ldn 7 (.t 7), .none⟩,
         ⟨(some 17), .call 17 [(.t 16)], .none⟩,
         ⟨(some 18), .un .not (.t 17), .none⟩]
def Tryd.fn18_r5 : List AIns :=
   [⟨(some 4), .mov (.c .nils), .none⟩,
          ⟨(some 5), .mov (.c (.int .i64 1)), .none⟩]
def Tryd.fn18_r6 : List AIns :=
   [⟨(some 19), .bin .add (.t 12) (.c (.int .i64 1)), .none⟩,
      ⟨(some 12), .mov (.t 19), .none⟩]
def Tryd.fn18_r7 : List AIns :=
   [⟨(some 20), .mov (.t 0), .none⟩,
      ⟨(some 21), .lenl (.t 20), .none⟩,
      ⟨(some 22), .bin .gtr (.t 21) (.c (.int .i64 0)), .none⟩,
      ⟨(some 23), .mov (.t 22), .none⟩,
      ⟨(some 24), .mov (.t 1), (some (23, true))⟩,
      ⟨(some 25), .bin .lss (.t 24) (.c (.int .i64 (-1099511627776))), (some (23, true))⟩,
      ⟨(some 26), .mov (.t 25), (some (23, true))⟩,
      ⟨(some 27), .mov (.t 1), (some (26, false))⟩,
      ⟨(some 28), .bin .gtr (.t 27) (.c (.int .i64 1099511627776)), (some (26, false))⟩,
      ⟨(some 29), .pick (.t 26) (.c (.bool true)) (.t 28), (some (23, true))⟩]
def Tryd.fn18_r8 : List AIns :=
   [⟨(some 30), .pick (.t 23) (.t 29) (.c (.bool false)), .none⟩]
def Tryd.fn18_r9 : List AIns :=
   [⟨(some 4), .mov (.c .nils), .none⟩,
      ⟨(some 5), .mov (.c (.int .i64 2)), .none⟩]
def Tryd.fn18_r10 : List AIns :=
   [⟨(some 31), .mov (.t 0), .none⟩,
    ⟨(some 32), .call 33 [(.t 31)], .none⟩,
    ⟨(some 8), .mov (.t 32), .none⟩]
def Tryd.fn18_r11 : List AIns :=
   [⟨(some 33), .mov (.t 8), .none⟩,
     ⟨(some 34), .lenl (.t 33), .none⟩,
     ⟨(some 35), .mov (.c (.int .i64 0)), .none⟩]
def Tryd.fn18_r12 : List AIns :=
   [⟨(some 36), .bin .lss (.t 35) (.t 34), .none⟩]
def Tryd.fn18_r13 : List AIns :=
   [⟨(some 37), .mov (.t 35), .none⟩,
         ⟨(some 9), .mov (.t 37), .none⟩]
def Tryd.fn18_r14 : List AIns :=
   [⟨(some 38), .mov (.t 8), .none⟩,
         ⟨(some 39), .mov (.t 9), .none⟩,
         ⟨(some 40), .ia 7 (.t 38) (.t 39), .none⟩,
         ⟨(some 41), .fa 1 (.t 40), .none⟩,
         ⟨(some 42), .ld1 (.t 41), .none⟩,
         ⟨(some 43), .mov (.t 1), .none⟩,
         ⟨(some 44), .bin .add (.t 42) (.t 43), .none⟩,
         ⟨(some 45), .ia 7 (.t 38) (.t 39), .none⟩,
         ⟨(some 46), .fa 1 (.t 45), .none⟩,
         ⟨.none, .st 1 (.t 46) (.t 44), .none⟩]
def Tryd.fn18_r15 : List AIns :=
   [⟨(some 47), .mov (.t 8), .none⟩,
         ⟨(some 48), .mov (.t 9), .none⟩,
         ⟨(some 49), .ia 7 (.t 47) (.t 48), .none⟩,
         ⟨(some 50), .fa 2 (.t 49), .none⟩,
         ⟨(some 51), .ld1 (.t 50), .none⟩,
         ⟨(some 52), .mov (.t 1), .none⟩,
         ⟨(some 53), .bin .add (.t 51) (.t 52), .none⟩,
         ⟨(some 54), .ia 7 (.t 47) (.t 48), .none⟩,
         ⟨(some 55), .fa 2 (.t 54), .none⟩,
         ⟨.none, .st 1 (.t 55) (.t 53), .none⟩]
def Tryd.fn18_r16 : List AIns :=
   [⟨(some 56), .mov (.t 8), .none⟩,
         ⟨(some 57), .mov (.t 9), .none⟩,
         ⟨(some 58), .ia 7 (.t 56) (.t 57), .none⟩,
         ⟨(some 59), .ldn 7 (.t 58), .none⟩,
         ⟨(some 60), .call 17 [(.t 59)], .none⟩,
         ⟨(some 61), .un .not (.t 60), .none⟩]
def Tryd.fn18_r17 : List AIns :=
   [⟨(some 4), .mov (.c .nils), .none⟩,
          ⟨(some 5), .mov (.c (.int .i64 2)), .none⟩]
def Tryd.fn18_r18 : List AIns :=
   [⟨(some 62), .bin .add (.t 35) (.c (.int .i64 1)), .none⟩,
      ⟨(some 35), .mov (.t 62), .none⟩]
def Tryd.fn18_r19 : List AIns :=
   [⟨(some 63), .mov (.t 8), .none⟩,
    ⟨(some 4), .mov (.t 63), .none⟩,
    ⟨(some 5), .mov (.c (.int .i64 0)), .none⟩]
def Tryd.fn18_l0 : ACode :=
 (.seq (.seq (.reg Tryd.fn18_r12)
     (.trim [1, 8, 34, 35, 36]))
    (.seq (.cond (.t 36)
      .skip
      (.exit 2))
    (.seq (.block 3
      (.seq (.seq (.reg Tryd.fn18_r13)
       (.trim [1, 8, 9, 34, 35]))
      (.seq (.seq (.reg Tryd.fn18_r14)
       (.trim [1, 8, 9, 34, 35]))
      (.seq (.seq (.reg Tryd.fn18_r15)
       (.trim [1, 8, 9, 34, 35]))
      (.seq (.seq (.reg Tryd.fn18_r16)
       (.trim [1, 8, 34, 35, 61]))
      (.cond (.t 61)
       (.seq (.seq (.reg Tryd.fn18_r17)
        (.trim [4, 5]))
       .ret)
       .skip))))))
    (.seq (.reg Tryd.fn18_r18)
    (.trim [1, 8, 34, 35])))))
def Tryd.fn18_l1 : ACode :=
 (.seq (.seq (.reg Tryd.fn18_r2)
     (.trim [0, 1, 10, 11, 12, 13]))
    (.seq (.cond (.t 13)
      .skip
      (.exit 0))
    (.seq (.block 1
      (.seq (.seq (.reg Tryd.fn18_r3)
       (.trim [0, 1, 7, 10, 11, 12]))
      (.seq (.seq (.reg Tryd.fn18_r4)
       (.trim [0, 1, 10, 11, 12, 18]))
      (.cond (.t 18)
       (.seq (.seq (.reg Tryd.fn18_r5)
        (.trim [4, 5]))
       .ret)
       .skip))))
    (.seq (.reg Tryd.fn18_r6)
    (.trim [0, 1, 10, 11, 12])))))
def Tryd.fn18 : AFun :=
 ⟨64, [.tmp 4, .tmp 5],
 (.seq (.seq (.reg Tryd.fn18_r0)
  (.trim [0, 1]))
 (.seq (.seq (.seq (.reg Tryd.fn18_r1)
   (.trim [0, 1, 10, 11, 12]))
  (.block 0
   (.loop (some [0, 1, 10, 11, 12])
    Tryd.fn18_l1)))
 (.seq (.seq (.seq (.seq (.reg Tryd.fn18_r7)
    (.trim [0, 1, 23, 29]))
   (.seq (.reg Tryd.fn18_r8)
   (.trim [0, 1, 30])))
  (.cond (.t 30)
   (.seq (.seq (.reg Tryd.fn18_r9)
    (.trim [4, 5]))
   .ret)
   .skip))
 (.seq (.seq (.reg Tryd.fn18_r10)
  (.trim [1, 8]))
 (.seq (.seq (.seq (.reg Tryd.fn18_r11)
   (.trim [1, 8, 34, 35]))
  (.block 2
   (.loop (some [1, 8, 34, 35])
    Tryd.fn18_l0)))
 (.seq (.seq (.reg Tryd.fn18_r19)
  (.trim [4, 5]))
 .ret)))))), true⟩
/-! signalbench/event.Line -/
def Tryd.fn19_r0 : List AIns :=
   [⟨(some 1), .box 23 (.t 0), .none⟩,
    ⟨(some 2), .mov (.c (.str [])), .none⟩,
    ⟨(some 3), .mov (.c (.int .i64 0)), .none⟩]
def Tryd.fn19_r1 : List AIns :=
   [⟨(some 7), .ldn 7 (.t 1), .none⟩,
     ⟨(some 8), .call 17 [(.t 7)], .none⟩,
     ⟨(some 9), .un .not (.t 8), .none⟩]
def Tryd.fn19_r2 : List AIns :=
   [⟨(some 2), .mov (.c (.str [])), .none⟩,
      ⟨(some 3), .mov (.c (.int .i64 1)), .none⟩]
def Tryd.fn19_r3 : List DIns :=
   [⟨⟨(some 10), .call 34 [], .none⟩, [], [4, 5, 6, 7], 1⟩,
    ⟨⟨(some 11), .fa 0 (.t 1), .none⟩, [], [2, 3, 4, 5, 6, 7], 0⟩,
    ⟨⟨(some 12), .ld1 (.t 11), .none⟩, [1], [3, 4, 5, 6, 7], 1⟩,
    ⟨⟨(some 13), .bin .sub (.t 12) (.c (.int .i64 1)), .none⟩, [2, 1], [4, 5, 6, 7], 0⟩,
    ⟨⟨(some 14), .ia 1 (.t 10) (.t 13), .none⟩, [0, 3, 2, 1], [5, 6, 7], 0⟩,
    ⟨⟨(some 15), .ld1 (.t 14), .none⟩, [4, 0, 3, 2, 1], [6, 7], 2⟩,
    ⟨⟨(some 16), .bsl 9 1 1 [(.str [])] [(0, 1, (.t 15))], .none⟩, [5, 4, 0, 3, 2, 1], [7], 2⟩,
    ⟨⟨(some 4), .mov (.t 16), .none⟩, [6, 0, 1, 2, 3, 4, 5], [], 0⟩]
def Tryd.fn19_r4 : List AIns :=
   [⟨(some 17), .fa 1 (.t 1), .none⟩,
      ⟨(some 18), .ld1 (.t 17), .none⟩,
      ⟨(some 19), .fa 2 (.t 1), .none⟩,
      ⟨(some 20), .ld1 (.t 19), .none⟩,
      ⟨(some 21), .fa 3 (.t 1), .none⟩,
      ⟨(some 22), .ld1 (.t 21), .none⟩,
      ⟨(some 23), .fa 4 (.t 1), .none⟩,
      ⟨(some 24), .ld1 (.t 23), .none⟩,
      ⟨(some 25), .fa 6 (.t 1), .none⟩,
      ⟨(some 26), .ld1 (.t 25), .none⟩]
def Tryd.fn19_r5 : List AIns :=
   [⟨(some 27), .bsl 3 1 5 [(.int .i64 0)] [(0, 1, (.t 18)), (1, 1, (.t 20)), (2, 1, (.t 22)), (3, 1, (.t 24)), (4, 1, (.t 26))], .none⟩,
     ⟨(some 28), .lenl (.t 27), .none⟩,
     ⟨(some 29), .mov (.c (.int .i64 0)), .none⟩]
def Tryd.fn19_r6 : List AIns :=
   [⟨(some 30), .bin .lss (.t 29) (.t 28), .none⟩]
def Tryd.fn19_r7 : List AIns :=
   [⟨(some 31), .ia 1 (.t 27) (.t 29), .none⟩,
         ⟨(some 32), .ld1 (.t 31), .none⟩,
         ⟨(some 6), .mov (.t 32), .none⟩]
def Tryd.fn19_r8 : List AIns :=
   [⟨(some 33), .mov (.t 4), .none⟩,
        ⟨(some 34), .mov (.t 6), .none⟩,
        ⟨(some 35), .call 35 [(.t 34)], .none⟩,
        ⟨(some 36), .bsl 9 1 1 [(.str [])] [(0, 1, (.t 35))], .none⟩,
        ⟨(some 37), .app 9 1 16 (.t 33) (.t 36), .none⟩,
        ⟨(some 4), .mov (.t 37), .none⟩]
def Tryd.fn19_r9 : List AIns :=
   [⟨(some 38), .bin .add (.t 29) (.c (.int .i64 1)), .none⟩,
      ⟨(some 29), .mov (.t 38), .none⟩]
def Tryd.fn19_r10 : List AIns :=
   [⟨(some 39), .mov (.t 4), .none⟩,
    ⟨(some 40), .fa 5 (.t 1), .none⟩,
    ⟨(some 41), .ld1 (.t 40), .none⟩,
    ⟨(some 42), .call 37 [(.t 41)], .none⟩,
    ⟨(some 43), .bsl 9 1 1 [(.str [])] [(0, 1, (.t 42))], .none⟩,
    ⟨(some 44), .app 9 1 16 (.t 39) (.t 43), .none⟩,
    ⟨(some 45), .call 36 [(.t 44), (.c (.str [32]))], .none⟩,
    ⟨(some 2), .mov (.t 45), .none⟩,
    ⟨(some 3), .mov (.c (.int .i64 0)), .none⟩]
def Tryd.fn19_l0 : ACode :=
 (.seq (.seq (.reg Tryd.fn19_r6)
     (.trim [1, 4, 27, 28, 29, 30]))
    (.seq (.cond (.t 30)
      .skip
      (.exit 0))
    (.seq (.block 1
      (.seq (.seq (.reg Tryd.fn19_r7)
       (.trim [1, 4, 6, 27, 28, 29]))
      (.seq (.reg Tryd.fn19_r8)
      (.trim [1, 4, 27, 28, 29]))))
    (.seq (.reg Tryd.fn19_r9)
    (.trim [1, 4, 27, 28, 29])))))
def Tryd.fn19 : AFun :=
 ⟨46, [.tmp 2, .tmp 3],
 (.seq (.seq (.reg Tryd.fn19_r0)
  (.trim [1]))
 (.seq (.seq (.seq (.reg Tryd.fn19_r1)
   (.trim [1, 9]))
  (.cond (.t 9)
   (.seq (.seq (.reg Tryd.fn19_r2)
    (.trim [2, 3]))
   .ret)
   .skip))
 (.seq (.seq (.regd Tryd.fn19_r3)
  (.trim [1, 4]))
 (.seq (.seq (.seq (.seq (.reg Tryd.fn19_r4)
    (.trim [1, 4, 18, 20, 22, 24, 26]))
   (.seq (.reg Tryd.fn19_r5)
   (.trim [1, 4, 27, 28, 29])))
  (.block 0
   (.loop (some [1, 4, 27, 28, 29])
    Tryd.fn19_l0)))
 (.seq (.seq (.reg Tryd.fn19_r10)
  (.trim [2, 3]))
 .ret))))), true⟩
/-! signalbench/event.Core -/
def Tryd.fn20_r0 : List AIns :=
   [⟨(some 1), .box 23 (.t 0), .none⟩,
    ⟨(some 2), .alloc 23 [(.int .i64 0), (.int .i64 0), (.int .i64 0), (.int .i64 0), (.int .i64 0), (.str []), (.int .i64 0)], .none⟩]
def Tryd.fn20_r1 : List AIns :=
   [⟨(some 3), .fa 1 (.t 1), .none⟩,
    ⟨.none, .st 1 (.t 3) (.c (.int .i64 0)), .none⟩,
    ⟨(some 4), .fa 2 (.t 1), .none⟩,
    ⟨.none, .st 1 (.t 4) (.c (.int .i64 0)), .none⟩]
def Tryd.fn20_r2 : List AIns :=
   [⟨(some 5), .ldn 7 (.t 1), .none⟩,
    ⟨.none, .st 7 (.t 2) (.t 5), .none⟩]
def Tryd.fn20 : AFun :=
 ⟨6, [.celln 2 7],
 (.seq (.seq (.reg Tryd.fn20_r0)
  (.trim [1, 2]))
 (.seq (.seq (.reg Tryd.fn20_r1)
  (.trim [1, 2]))
 (.seq (.seq (.reg Tryd.fn20_r2)
  (.trim [2]))
 .ret))), true⟩
/-! signalbench/signalbenchref07.Valid -/
def Tryd.fn21_r0 : List AIns :=
   [⟨(some 1), .box 23 (.t 0), .none⟩,
    ⟨(some 2), .mov (.c (.bool false)), .none⟩]
def Tryd.fn21_r1 : List AIns :=
   [⟨(some 3), .fa 0 (.t 1), .none⟩,
      ⟨(some 4), .ld1 (.t 3), .none⟩,
      ⟨(some 5), .bin .lss (.t 4) (.c (.int .i64 1)), .none⟩,
      ⟨(some 6), .mov (.t 5), .none⟩,
      ⟨(some 7), .fa 0 (.t 1), (some (6, false))⟩,
      ⟨(some 8), .ld1 (.t 7), (some (6, false))⟩,
      ⟨(some 9), .bin .gtr (.t 8) (.c (.int .i64 8)), (some (6, false))⟩,
      ⟨(some 10), .pick (.t 6) (.c (.bool true)) (.t 9), .none⟩,
      ⟨(some 11), .mov (.t 10), .none⟩,
      ⟨(some 12), .fa 1 (.t 1), (some (11, false))⟩]
def Tryd.fn21_r2 : List AIns :=
   [⟨(some 13), .ld1 (.t 12), (some (11, false))⟩,
      ⟨(some 14), .bin .lss (.t 13) (.c (.int .i64 0)), (some (11, false))⟩,
      ⟨(some 15), .pick (.t 11) (.c (.bool true)) (.t 14), .none⟩,
      ⟨(some 16), .mov (.t 15), .none⟩,
      ⟨(some 17), .fa 1 (.t 1), (some (16, false))⟩,
      ⟨(some 18), .ld1 (.t 17), (some (16, false))⟩,
      ⟨(some 19), .fa 2 (.t 1), (some (16, false))⟩,
      ⟨(some 20), .ld1 (.t 19), (some (16, false))⟩,
      ⟨(some 21), .bin .gtr (.t 18) (.t 20), (some (16, false))⟩,
      ⟨(some 22), .pick (.t 16) (.c (.bool true)) (.t 21), .none⟩]
def Tryd.fn21_r3 : List AIns :=
   [⟨(some 23), .mov (.t 22), .none⟩,
      ⟨(some 24), .fa 2 (.t 1), (some (23, false))⟩,
      ⟨(some 25), .ld1 (.t 24), (some (23, false))⟩,
      ⟨(some 26), .bin .gtr (.t 25) (.c (.int .i64 1099511627776)), (some (23, false))⟩,
      ⟨(some 27), .pick (.t 23) (.c (.bool true)) (.t 26), .none⟩,
      ⟨(some 28), .mov (.t 27), .none⟩,
      ⟨(some 29), .fa 5 (.t 1), (some (28, false))⟩,
      ⟨(some 30), .ld1 (.t 29), (some (28, false))⟩,
      ⟨(some 31), .lens (.t 30), (some (28, false))⟩,
      ⟨(some 32), .bin .gtr (.t 31) (.c (.int .i64 4096)), (some (28, false))⟩]
def Tryd.fn21_r4 : List AIns :=
   [⟨(some 33), .pick (.t 28) (.c (.bool true)) (.t 32), .none⟩,
      ⟨(some 34), .mov (.t 33), .none⟩,
      ⟨(some 35), .fa 6 (.t 1), (some (34, false))⟩,
      ⟨(some 36), .ld1 (.t 35), (some (34, false))⟩,
      ⟨(some 37), .bin .lss (.t 36) (.c (.int .i64 0)), (some (34, false))⟩,
      ⟨(some 38), .pick (.t 34) (.c (.bool true)) (.t 37), .none⟩,
      ⟨(some 39), .mov (.t 38), .none⟩,
      ⟨(some 40), .fa 6 (.t 1), (some (39, false))⟩,
      ⟨(some 41), .ld1 (.t 40), (some (39, false))⟩,
      ⟨(some 42), .bin .gtr (.t 41) (.c (.int .i64 12)), (some (39, false))⟩]
def Tryd.fn21_r5 : List AIns :=
   [⟨(some 43), .pick (.t 39) (.c (.bool true)) (.t 42), .none⟩]
def Tryd.fn21_r6 : List AIns :=
   [⟨(some 2), .mov (.c (.bool false)), .none⟩]
def Tryd.fn21_r7 : List AIns :=
   [⟨(some 44), .fa 3 (.t 1), .none⟩,
     ⟨(some 45), .ld1 (.t 44), .none⟩,
     ⟨(some 46), .bin .geq (.t 45) (.c (.int .i64 (-9007199254740992))), .none⟩,
     ⟨(some 47), .mov (.t 46), .none⟩,
     ⟨(some 48), .fa 3 (.t 1), (some (47, true))⟩,
     ⟨(some 49), .ld1 (.t 48), (some (47, true))⟩,
     ⟨(some 50), .bin .leq (.t 49) (.c (.int .i64 9007199254740992)), (some (47, true))⟩,
     ⟨(some 51), .pick (.t 47) (.t 50) (.c (.bool false)), .none⟩,
     ⟨(some 52), .mov (.t 51), .none⟩,
     ⟨(some 53), .fa 4 (.t 1), (some (52, true))⟩]
def Tryd.fn21_r8 : List AIns :=
   [⟨(some 54), .ld1 (.t 53), (some (52, true))⟩,
    ⟨(some 55), .bin .geq (.t 54) (.c (.int .i64 (-9007199254740992))), (some (52, true))⟩,
    ⟨(some 56), .pick (.t 52) (.t 55) (.c (.bool false)), .none⟩,
    ⟨(some 57), .mov (.t 56), .none⟩,
    ⟨(some 58), .fa 4 (.t 1), (some (57, true))⟩,
    ⟨(some 59), .ld1 (.t 58), (some (57, true))⟩,
    ⟨(some 60), .bin .leq (.t 59) (.c (.int .i64 9007199254740992)), (some (57, true))⟩,
    ⟨(some 61), .pick (.t 57) (.t 60) (.c (.bool false)), .none⟩,
    ⟨(some 2), .mov (.t 61), .none⟩]
def Tryd.fn21 : AFun :=
 ⟨62, [.tmp 2],
 (.seq (.seq (.reg Tryd.fn21_r0)
  (.trim [1]))
 (.seq (.seq (.seq (.seq (.reg Tryd.fn21_r1)
    (.trim [1, 11, 12]))
   (.seq (.seq (.reg Tryd.fn21_r2)
    (.trim [1, 22]))
   (.seq (.seq (.reg Tryd.fn21_r3)
    (.trim [1, 28, 32]))
   (.seq (.seq (.reg Tryd.fn21_r4)
    (.trim [1, 39, 42]))
   (.seq (.reg Tryd.fn21_r5)
   (.trim [1, 43]))))))
  (.cond (.t 43)
   (.seq (.seq (.reg Tryd.fn21_r6)
    (.trim [2]))
   .ret)
   .skip))
 (.seq (.seq (.seq (.reg Tryd.fn21_r7)
   (.trim [1, 52, 53]))
  (.seq (.reg Tryd.fn21_r8)
  (.trim [2])))
 .ret))), true⟩
/-! signalbench/signalbenchref07.Line -/
def Tryd.fn22_r0 : List AIns :=
   [⟨(some 1), .box 23 (.t 0), .none⟩,
    ⟨(some 2), .mov (.c (.str [])), .none⟩,
    ⟨(some 3), .mov (.c (.int .i64 0)), .none⟩]
def Tryd.fn22_r1 : List AIns :=
   [⟨(some 5), .ldn 7 (.t 1), .none⟩,
     ⟨(some 6), .call 21 [(.t 5)], .none⟩,
     ⟨(some 7), .un .not (.t 6), .none⟩]
def Tryd.fn22_r2 : List AIns :=
   [⟨(some 2), .mov (.c (.str [])), .none⟩,
      ⟨(some 3), .mov (.c (.int .i64 1)), .none⟩]
def Tryd.fn22_r3e : List DIns :=
   ⟨⟨(some 38), .bin .add (.t 34) (.t 37), .none⟩, [26, 29, 25, 21, 24, 20, 16, 19, 15, 11, 14, 10, 6, 9, 5, 4, 0, 3, 2, 1, 8, 7, 13, 12, 18, 17, 23, 22, 28, 27], [31], 0⟩ ::
   ⟨⟨(some 4), .mov (.t 38), .none⟩, [30, 29, 0, 1, 2, 3, 4, 5, 6, 7, 8, 9, 10, 11, 12, 13, 14, 15, 16, 17, 18, 19, 20, 21, 22, 23, 24, 25, 26, 27, 28], [], 0⟩ ::
   []
def Tryd.fn22_r3d : List DIns :=
   ⟨⟨(some 32), .call 39 [(.t 31)], .none⟩, [23, 19, 22, 18, 14, 17, 13, 9, 12, 8, 0, 7], [25, 26, 29, 30, 31], 1⟩ ::
   ⟨⟨(some 33), .bin .add (.t 29) (.t 32), .none⟩, [21, 24, 20, 16, 19, 15, 11, 14, 10, 6, 9, 5, 4, 0, 3, 2, 1, 8, 7, 13, 12, 18, 17, 23, 22], [26, 30, 31], 0⟩ ::
   ⟨⟨(some 34), .bin .add (.t 33) (.c (.str [32])), .none⟩, [25, 21, 24, 20, 16, 19, 15, 11, 14, 10, 6, 9, 5, 4, 0, 3, 2, 1, 8, 7, 13, 12, 18, 17, 23, 22], [30, 31], 0⟩ ::
   ⟨⟨(some 35), .fa 6 (.t 1), .none⟩, [], [28, 29, 30, 31], 0⟩ ::
   ⟨⟨(some 36), .ld1 (.t 35), .none⟩, [27], [29, 30, 31], 1⟩ ::
   ⟨⟨(some 37), .call 39 [(.t 36)], .none⟩, [28, 24, 27, 23, 19, 22, 18, 14, 17, 13, 9, 12, 8, 0, 7], [30, 31], 1⟩ ::
   Tryd.fn22_r3e
def Tryd.fn22_r3c : List DIns :=
   ⟨⟨(some 26), .ld1 (.t 25), .none⟩, [17], [19, 20, 21, 24, 25, 26, 29, 30, 31], 1⟩ ::
   ⟨⟨(some 27), .call 39 [(.t 26)], .none⟩, [18, 14, 17, 13, 9, 12, 8, 0, 7], [20, 21, 24, 25, 26, 29, 30, 31], 1⟩ ::
   ⟨⟨(some 28), .bin .add (.t 24) (.t 27), .none⟩, [16, 19, 15, 11, 14, 10, 6, 9, 5, 4, 0, 3, 2, 1, 8, 7, 13, 12, 18, 17], [21, 25, 26, 30, 31], 0⟩ ::
   ⟨⟨(some 29), .bin .add (.t 28) (.c (.str [32])), .none⟩, [20, 16, 19, 15, 11, 14, 10, 6, 9, 5, 4, 0, 3, 2, 1, 8, 7, 13, 12, 18, 17], [25, 26, 30, 31], 0⟩ ::
   ⟨⟨(some 30), .fa 4 (.t 1), .none⟩, [], [23, 24, 25, 26, 29, 30, 31], 0⟩ ::
   ⟨⟨(some 31), .ld1 (.t 30), .none⟩, [22], [24, 25, 26, 29, 30, 31], 1⟩ ::
   Tryd.fn22_r3d
def Tryd.fn22_r3b : List DIns :=
   ⟨⟨(some 20), .fa 2 (.t 1), .none⟩, [], [13, 14, 15, 16, 19, 20, 21, 24, 25, 26, 29, 30, 31], 0⟩ ::
   ⟨⟨(some 21), .ld1 (.t 20), .none⟩, [12], [14, 15, 16, 19, 20, 21, 24, 25, 26, 29, 30, 31], 1⟩ ::
   ⟨⟨(some 22), .call 39 [(.t 21)], .none⟩, [13, 9, 12, 8, 0, 7], [15, 16, 19, 20, 21, 24, 25, 26, 29, 30, 31], 1⟩ ::
   ⟨⟨(some 23), .bin .add (.t 19) (.t 22), .none⟩, [11, 14, 10, 6, 9, 5, 4, 0, 3, 2, 1, 8, 7, 13, 12], [16, 20, 21, 25, 26, 30, 31], 0⟩ ::
   ⟨⟨(some 24), .bin .add (.t 23) (.c (.str [32])), .none⟩, [15, 11, 14, 10, 6, 9, 5, 4, 0, 3, 2, 1, 8, 7, 13, 12], [20, 21, 25, 26, 30, 31], 0⟩ ::
   ⟨⟨(some 25), .fa 3 (.t 1), .none⟩, [], [18, 19, 20, 21, 24, 25, 26, 29, 30, 31], 0⟩ ::
   Tryd.fn22_r3c
def Tryd.fn22_r3a : List DIns :=
   ⟨⟨(some 14), .bin .add (.t 13) (.c (.str [32])), .none⟩, [5, 4, 0, 3, 2, 1], [10, 11, 15, 16, 20, 21, 25, 26, 30, 31], 0⟩ ::
   ⟨⟨(some 15), .fa 1 (.t 1), .none⟩, [], [8, 9, 10, 11, 14, 15, 16, 19, 20, 21, 24, 25, 26, 29, 30, 31], 0⟩ ::
   ⟨⟨(some 16), .ld1 (.t 15), .none⟩, [7], [9, 10, 11, 14, 15, 16, 19, 20, 21, 24, 25, 26, 29, 30, 31], 1⟩ ::
   ⟨⟨(some 17), .call 39 [(.t 16)], .none⟩, [8, 0, 7], [10, 11, 14, 15, 16, 19, 20, 21, 24, 25, 26, 29, 30, 31], 1⟩ ::
   ⟨⟨(some 18), .bin .add (.t 14) (.t 17), .none⟩, [6, 9, 5, 4, 0, 3, 2, 1, 8, 7], [11, 15, 16, 20, 21, 25, 26, 30, 31], 0⟩ ::
   ⟨⟨(some 19), .bin .add (.t 18) (.c (.str [32])), .none⟩, [10, 6, 9, 5, 4, 0, 3, 2, 1, 8, 7], [15, 16, 20, 21, 25, 26, 30, 31], 0⟩ ::
   Tryd.fn22_r3b
def Tryd.fn22_r3 : List DIns :=
   ⟨⟨(some 8), .call 38 [], .none⟩, [], [4, 5, 6, 9, 10, 11, 14, 15, 16, 19, 20, 21, 24, 25, 26, 29, 30, 31], 1⟩ ::
   ⟨⟨(some 9), .fa 0 (.t 1), .none⟩, [], [2, 3, 4, 5, 6, 10, 11, 15, 16, 20, 21, 25, 26, 30, 31], 0⟩ ::
   ⟨⟨(some 10), .ld1 (.t 9), .none⟩, [1], [3, 4, 5, 6, 10, 11, 15, 16, 20, 21, 25, 26, 30, 31], 1⟩ ::
   ⟨⟨(some 11), .bin .sub (.t 10) (.c (.int .i64 1)), .none⟩, [2, 1], [4, 5, 6, 10, 11, 15, 16, 20, 21, 25, 26, 30, 31], 0⟩ ::
   ⟨⟨(some 12), .ia 1 (.t 8) (.t 11), .none⟩, [0, 3, 2, 1], [5, 6, 10, 11, 15, 16, 20, 21, 25, 26, 30, 31], 0⟩ ::
   ⟨⟨(some 13), .ld1 (.t 12), .none⟩, [4, 0, 3, 2, 1], [6, 10, 11, 15, 16, 20, 21, 25, 26, 30, 31], 1⟩ ::
   Tryd.fn22_r3a
def Tryd.fn22_r4 : List AIns :=
   [⟨(some 39), .mov (.t 4), .none⟩,
    ⟨(some 40), .bin .add (.t 39) (.c (.str [32])), .none⟩,
    ⟨(some 41), .fa 5 (.t 1), .none⟩,
    ⟨(some 42), .ld1 (.t 41), .none⟩,
    ⟨(some 43), .call 40 [(.t 42)], .none⟩,
    ⟨(some 44), .bin .add (.t 40) (.t 43), .none⟩,
    ⟨(some 2), .mov (.t 44), .none⟩,
    ⟨(some 3), .mov (.c (.int .i64 0)), .none⟩]
def Tryd.fn22 : AFun :=
 ⟨45, [.tmp 2, .tmp 3],
 (.seq (.seq (.reg Tryd.fn22_r0)
  (.trim [1]))
 (.seq (.seq (.seq (.reg Tryd.fn22_r1)
   (.trim [1, 7]))
  (.cond (.t 7)
   (.seq (.seq (.reg Tryd.fn22_r2)
    (.trim [2, 3]))
   .ret)
   .skip))
 (.seq (.seq (.regd Tryd.fn22_r3)
  (.trim [1, 4]))
 (.seq (.seq (.reg Tryd.fn22_r4)
  (.trim [2, 3]))
 .ret)))), true⟩
/-! signalbench/signalbenchref07.Core -/
def Tryd.fn23_r0 : List AIns :=
   [⟨(some 1), .box 23 (.t 0), .none⟩,
    ⟨(some 2), .alloc 23 [(.int .i64 0), (.int .i64 0), (.int .i64 0), (.int .i64 0), (.int .i64 0), (.str []), (.int .i64 0)], .none⟩]
def Tryd.fn23_r1 : List AIns :=
   [⟨(some 3), .fa 1 (.t 1), .none⟩,
    ⟨.none, .st 1 (.t 3) (.c (.int .i64 0)), .none⟩]
def Tryd.fn23_r2 : List AIns :=
   [⟨(some 4), .fa 2 (.t 1), .none⟩,
    ⟨.none, .st 1 (.t 4) (.c (.int .i64 0)), .none⟩]
def Tryd.fn23_r3 : List AIns :=
   [⟨(some 5), .ldn 7 (.t 1), .none⟩,
    ⟨.none, .st 7 (.t 2) (.t 5), .none⟩]
def Tryd.fn23 : AFun :=
 ⟨6, [.celln 2 7],
 (.seq (.seq (.reg Tryd.fn23_r0)
  (.trim [1, 2]))
 (.seq (.seq (.reg Tryd.fn23_r1)
  (.trim [1, 2]))
 (.seq (.seq (.reg Tryd.fn23_r2)
  (.trim [1, 2]))
 (.seq (.seq (.reg Tryd.fn23_r3)
  (.trim [2]))
 .ret)))), true⟩
/-! signalbench/signalbenchlaw55.packet -/
def Tryd.fn24_r0 : List AIns :=
   [⟨(some 4), .alloc 23 [(.int .i64 0), (.int .i64 0), (.int .i64 0), (.int .i64 0), (.int .i64 0), (.str []), (.int .i64 0)], .none⟩]
def Tryd.fn24_r1 : List AIns :=
   [⟨(some 5), .mov (.t 0), .none⟩,
    ⟨(some 6), .mov (.t 0), .none⟩,
    ⟨(some 7), .bin .add (.t 6) (.c (.int .i64 2)), .none⟩,
    ⟨(some 8), .mov (.t 1), .none⟩,
    ⟨(some 9), .bld [(.int .i64 0), (.int .i64 0), (.int .i64 0), (.int .i64 0), (.int .i64 0), (.str []), (.int .i64 0)] [(0, 1, (.c (.int .i64 6))), (1, 1, (.t 5)), (2, 1, (.t 7)), (5, 1, (.t 8))], .none⟩,
    ⟨.none, .st 7 (.t 4) (.t 9), .none⟩]
def Tryd.fn24 : AFun :=
 ⟨10, [.celln 4 7],
 (.seq (.seq (.reg Tryd.fn24_r0)
  (.trim [0, 1, 4]))
 (.seq (.seq (.reg Tryd.fn24_r1)
  (.trim [4]))
 .ret)), true⟩
/-! signalbench/compare.keys -/
def Tryd.fn25_r0 : List AIns :=
   [⟨(some 2), .mov (.c .nils), .none⟩,
    ⟨(some 3), .mov (.c (.bool false)), .none⟩]
def Tryd.fn25_r1 : List AIns :=
   [⟨(some 4), .mov (.c .nils), .none⟩]
def Tryd.fn25_r2 : List AIns :=
   [⟨(some 7), .mov (.t 0), .none⟩,
     ⟨(some 8), .lenl (.t 7), .none⟩,
     ⟨(some 9), .mov (.c (.int .i64 0)), .none⟩]
def Tryd.fn25_r3 : List AIns :=
   [⟨(some 10), .bin .lss (.t 9) (.t 8), .none⟩]
def Tryd.fn25_r4 : List AIns :=
   [⟨(some 11), .ia 7 (.t 7) (.t 9), .none⟩,
         ⟨(some 12), .ldn 7 (.t 11), .none⟩,
         ⟨(some 6), .alloc 23 [(.int .i64 0), (.int .i64 0), (.int .i64 0), (.int .i64 0), (.int .i64 0), (.str []), (.int .i64 0)], .none⟩,
         ⟨.none, .st 7 (.t 6) (.t 12), .none⟩]
def Tryd.fn25_r5 : List AIns :=
   [⟨(some 13), .ldn 7 (.t 6), .none⟩,
          ⟨(some 14), .call 17 [(.t 13)], .none⟩,
          ⟨(some 15), .un .not (.t 14), .none⟩]
def Tryd.fn25_r6 : List AIns :=
   [⟨(some 2), .mov (.c .nils), .none⟩,
           ⟨(some 3), .mov (.c (.bool false)), .none⟩]
def Tryd.fn25_r7 : List AIns :=
   [⟨(some 16), .mov (.t 4), .none⟩,
        ⟨(some 17), .ldn 7 (.t 6), .none⟩,
        ⟨(some 18), .call 7 [(.t 17)], .none⟩,
        ⟨(some 19), .bsl 9 1 1 [(.str [])] [(0, 1, (.t 18))], .none⟩,
        ⟨(some 20), .app 9 1 16 (.t 16) (.t 19), .none⟩,
        ⟨(some 4), .mov (.t 20), .none⟩]
def Tryd.fn25_r8 : List AIns :=
   [⟨(some 21), .bin .add (.t 9) (.c (.int .i64 1)), .none⟩,
      ⟨(some 9), .mov (.t 21), .none⟩]
def Tryd.fn25_r9 : List AIns :=
   [⟨(some 22), .mov (.t 4), .none⟩,
    ⟨(some 2), .mov (.t 22), .none⟩,
    ⟨(some 3), .mov (.c (.bool true)), .none⟩]
def Tryd.fn25_l0 : ACode :=
 (.seq (.seq (.reg Tryd.fn25_r3)
     (.trim [4, 7, 8, 9, 10]))
    (.seq (.cond (.t 10)
      .skip
      (.exit 0))
    (.seq (.block 1
      (.seq (.seq (.reg Tryd.fn25_r4)
       (.trim [4, 6, 7, 8, 9]))
      (.seq (.seq (.seq (.reg Tryd.fn25_r5)
        (.trim [4, 6, 7, 8, 9, 15]))
       (.cond (.t 15)
        (.seq (.seq (.reg Tryd.fn25_r6)
         (.trim [2, 3]))
        .ret)
        .skip))
      (.seq (.reg Tryd.fn25_r7)
      (.trim [4, 7, 8, 9])))))
    (.seq (.reg Tryd.fn25_r8)
    (.trim [4, 7, 8, 9])))))
def Tryd.fn25 : AFun :=
 ⟨23, [.tmp 2, .tmp 3],
 (.seq (.seq (.reg Tryd.fn25_r0)
  (.trim [0]))
 (.seq (.seq (.reg Tryd.fn25_r1)
  (.trim [0, 4]))
 (.seq (.seq (.seq (.reg Tryd.fn25_r2)
   (.trim [4, 7, 8, 9]))
  (.block 0
   (.loop (some [4, 7, 8, 9])
    Tryd.fn25_l0)))
 (.seq (.seq (.reg Tryd.fn25_r9)
  (.trim [2, 3]))
 .ret)))), true⟩
/-! signalbench/align.Pairs -/
def Tryd.fn26_r0 : List AIns :=
   [⟨(some 4), .mov (.c .nils), .none⟩,
    ⟨(some 5), .mov (.c (.int .i64 0)), .none⟩]
def Tryd.fn26_r1 : List AIns :=
   [⟨(some 10), .mov (.t 0), .none⟩,
     ⟨(some 11), .mov (.t 1), .none⟩,
     ⟨(some 12), .call 32 [(.t 10), (.t 11)], .none⟩,
     ⟨(some 13), .un .not (.t 12), .none⟩]
def Tryd.fn26_r2 : List AIns :=
   [⟨(some 4), .mov (.c .nils), .none⟩,
      ⟨(some 5), .mov (.c (.int .i64 6)), .none⟩]
def Tryd.fn26_r3 : List AIns :=
   [⟨(some 14), .mov (.t 0), .none⟩,
    ⟨(some 15), .mov (.t 1), .none⟩,
    ⟨(some 16), .call 41 [(.t 14), (.t 15)], .none⟩,
    ⟨(some 6), .mov (.t 16), .none⟩]
def Tryd.fn26_r4 : List AIns :=
   [⟨(some 7), .mov (.c .nils), .none⟩]
def Tryd.fn26_r5 : List AIns :=
   [⟨(some 8), .mov (.c (.int .i64 0)), .none⟩,
    ⟨(some 9), .mov (.c (.int .i64 0)), .none⟩]
def Tryd.fn26_r6 : List AIns :=
   [⟨(some 17), .mov (.t 8), .none⟩,
        ⟨(some 18), .mov (.t 0), .none⟩,
        ⟨(some 19), .lenl (.t 18), .none⟩,
        ⟨(some 20), .bin .lss (.t 17) (.t 19), .none⟩,
        ⟨(some 21), .mov (.t 20), .none⟩,
        ⟨(some 22), .mov (.t 9), (some (21, false))⟩,
        ⟨(some 23), .mov (.t 1), (some (21, false))⟩,
        ⟨(some 24), .lenl (.t 23), (some (21, false))⟩,
        ⟨(some 25), .bin .lss (.t 22) (.t 24), (some (21, false))⟩,
        ⟨(some 26), .pick (.t 21) (.c (.bool true)) (.t 25), .none⟩]
def Tryd.fn26_r7c : List DIns :=
   ⟨⟨(some 53), .ld1 (.t 52), (some (45, true))⟩, [17, 10, 15, 16, 9, 4, 8, 3, 0, 2, 1, 5, 7, 6], [19, 20, 21], 1⟩ ::
   ⟨⟨(some 54), .bin .eql (.t 49) (.t 53), (some (45, true))⟩, [14, 18, 10, 13, 11, 12, 9, 4, 8, 3, 0, 2, 1, 5, 7, 6, 17, 15, 16], [20, 21], 0⟩ ::
   ⟨⟨(some 55), .pick (.t 45) (.t 54) (.c (.bool false)), .none⟩, [10, 19, 9, 4, 8, 3, 0, 2, 1, 5, 7, 6, 14, 18, 13, 11, 12, 17, 15, 16], [21], 0⟩ ::
   ⟨⟨(some 34), .mov (.t 55), .none⟩, [20, 10, 19, 9, 4, 8, 3, 0, 2, 1, 5, 7, 6, 14, 18, 13, 11, 12, 17, 15, 16], [], 0⟩ ::
   []
def Tryd.fn26_r7b : List DIns :=
   ⟨⟨(some 47), .mov (.t 8), (some (45, true))⟩, [10, 9, 4, 8, 3, 0, 2, 1, 5, 7, 6], [13, 14, 19, 20, 21], 0⟩ ::
   ⟨⟨(some 48), .ia 1 (.t 46) (.t 47), (some (45, true))⟩, [11, 12, 10, 9, 4, 8, 3, 0, 2, 1, 5, 7, 6], [14, 19, 20, 21], 0⟩ ::
   ⟨⟨(some 49), .ld1 (.t 48), (some (45, true))⟩, [13, 10, 11, 12, 9, 4, 8, 3, 0, 2, 1, 5, 7, 6], [19, 20, 21], 1⟩ ::
   ⟨⟨(some 50), .mov (.t 1), (some (45, true))⟩, [10, 9, 4, 8, 3, 0, 2, 1, 5, 7, 6], [17, 18, 19, 20, 21], 0⟩ ::
   ⟨⟨(some 51), .mov (.t 9), (some (45, true))⟩, [10, 9, 4, 8, 3, 0, 2, 1, 5, 7, 6], [17, 18, 19, 20, 21], 0⟩ ::
   ⟨⟨(some 52), .ia 1 (.t 50) (.t 51), (some (45, true))⟩, [15, 16, 10, 9, 4, 8, 3, 0, 2, 1, 5, 7, 6], [18, 19, 20, 21], 0⟩ ::
   Tryd.fn26_r7c
def Tryd.fn26_r7a : List DIns :=
   ⟨⟨(some 41), .mov (.t 1), (some (39, true))⟩, [4, 3, 0, 2, 1], [7, 8, 9, 10, 11, 12, 13, 14, 15, 16, 17, 18, 19, 20, 21], 0⟩ ::
   ⟨⟨(some 42), .lenl (.t 41), (some (39, true))⟩, [6, 4, 3, 0, 2, 1], [8, 9, 10, 11, 12, 13, 14, 15, 16, 17, 18, 19, 20, 21], 0⟩ ::
   ⟨⟨(some 43), .bin .lss (.t 40) (.t 42), (some (39, true))⟩, [5, 7, 4, 3, 0, 2, 1, 6], [9, 10, 11, 12, 13, 14, 15, 16, 17, 18, 19, 20, 21], 0⟩ ::
   ⟨⟨(some 44), .pick (.t 39) (.t 43) (.c (.bool false)), .none⟩, [4, 8, 3, 0, 2, 1, 5, 7, 6], [10, 11, 12, 13, 14, 15, 16, 17, 18, 19, 20, 21], 0⟩ ::
   ⟨⟨(some 45), .mov (.t 44), .none⟩, [9, 4, 8, 3, 0, 2, 1, 5, 7, 6], [11, 12, 13, 14, 15, 16, 17, 18, 19, 20, 21], 0⟩ ::
   ⟨⟨(some 46), .mov (.t 0), (some (45, true))⟩, [10, 9, 4, 8, 3, 0, 2, 1, 5, 7, 6], [13, 14, 19, 20, 21], 0⟩ ::
   Tryd.fn26_r7b
def Tryd.fn26_r7 : List DIns :=
   ⟨⟨(some 35), .mov (.t 8), .none⟩, [], [3, 4, 5, 6, 7, 8, 9, 10, 11, 12, 13, 14, 15, 16, 17, 18, 19, 20, 21], 0⟩ ::
   ⟨⟨(some 36), .mov (.t 0), .none⟩, [], [2, 3, 4, 5, 6, 7, 8, 9, 10, 11, 12, 13, 14, 15, 16, 17, 18, 19, 20, 21], 0⟩ ::
   ⟨⟨(some 37), .lenl (.t 36), .none⟩, [1], [3, 4, 5, 6, 7, 8, 9, 10, 11, 12, 13, 14, 15, 16, 17, 18, 19, 20, 21], 0⟩ ::
   ⟨⟨(some 38), .bin .lss (.t 35) (.t 37), .none⟩, [0, 2, 1], [4, 5, 6, 7, 8, 9, 10, 11, 12, 13, 14, 15, 16, 17, 18, 19, 20, 21], 0⟩ ::
   ⟨⟨(some 39), .mov (.t 38), .none⟩, [3, 0, 2, 1], [5, 6, 7, 8, 9, 10, 11, 12, 13, 14, 15, 16, 17, 18, 19, 20, 21], 0⟩ ::
   ⟨⟨(some 40), .mov (.t 9), (some (39, true))⟩, [4, 3, 0, 2, 1], [8, 9, 10, 11, 12, 13, 14, 15, 16, 17, 18, 19, 20, 21], 0⟩ ::
   Tryd.fn26_r7a
def Tryd.fn26_r8 : List AIns :=
   [⟨(some 56), .mov (.t 7), .none⟩,
          ⟨(some 57), .mov (.t 8), .none⟩,
          ⟨(some 58), .mov (.t 9), .none⟩,
          ⟨(some 59), .bld [(.int .i64 0), (.int .i64 0)] [(0, 1, (.t 57)), (1, 1, (.t 58))], .none⟩,
          ⟨(some 60), .bsl 56 2 1 [(.int .i64 0), (.int .i64 0)] [(0, 2, (.t 59))], .none⟩,
          ⟨(some 61), .app 56 2 16 (.t 56) (.t 60), .none⟩,
          ⟨(some 7), .mov (.t 61), .none⟩]
def Tryd.fn26_r9 : List AIns :=
   [⟨(some 62), .mov (.t 8), .none⟩,
         ⟨(some 63), .bin .add (.t 62) (.c (.int .i64 1)), .none⟩,
         ⟨(some 64), .mov (.t 9), .none⟩,
         ⟨(some 65), .bin .add (.t 64) (.c (.int .i64 1)), .none⟩,
         ⟨(some 8), .mov (.t 63), .none⟩,
         ⟨(some 9), .mov (.t 65), .none⟩]
def Tryd.fn26_r10d : List DIns :=
   ⟨⟨(some 91), .ld1 (.t 90), (some (76, true))⟩, [23, 9, 21, 22, 20, 17, 19, 8, 4, 5, 7, 3, 0, 2, 1, 6, 18], [25, 26, 27, 28, 29], 1⟩ ::
   ⟨⟨(some 92), .bin .add (.c (.int .i64 1)) (.t 91), (some (76, true))⟩, [24, 9, 23, 21, 22, 20, 17, 19, 8, 4, 5, 7, 3, 0, 2, 1, 6, 18], [26, 27, 28, 29], 0⟩ ::
   ⟨⟨(some 93), .bin .eql (.t 83) (.t 92), (some (76, true))⟩, [16, 25, 9, 15, 13, 14, 12, 10, 11, 8, 4, 5, 7, 3, 0, 2, 1, 6, 24, 23, 21, 22, 20, 17, 19, 18], [27, 28, 29], 0⟩ ::
   ⟨⟨(some 94), .pick (.t 76) (.t 93) (.c (.bool false)), (some (71, false))⟩, [9, 26, 4, 8, 5, 7, 3, 0, 2, 1, 6, 16, 25, 15, 13, 14, 12, 10, 11, 24, 23, 21, 22, 20, 17, 19, 18], [28, 29], 0⟩ ::
   ⟨⟨(some 95), .pick (.t 71) (.c (.bool true)) (.t 94), .none⟩, [4, 27, 3, 0, 2, 1, 9, 26, 8, 5, 7, 6, 16, 25, 15, 13, 14, 12, 10, 11, 24, 23, 21, 22, 20, 17, 19, 18], [29], 0⟩ ::
   ⟨⟨(some 66), .mov (.t 95), .none⟩, [28, 9, 4, 27, 3, 0, 2, 1, 26, 8, 5, 7, 6, 16, 25, 15, 13, 14, 12, 10, 11, 24, 23, 21, 22, 20, 17, 19, 18], [], 0⟩ ::
   []
def Tryd.fn26_r10c : List DIns :=
   ⟨⟨(some 85), .mov (.t 8), (some (76, true))⟩, [9, 8, 4, 5, 7, 3, 0, 2, 1, 6], [19, 20, 21, 23, 24, 25, 26, 27, 28, 29], 0⟩ ::
   ⟨⟨(some 86), .bin .add (.t 85) (.c (.int .i64 1)), (some (76, true))⟩, [18, 9, 8, 4, 5, 7, 3, 0, 2, 1, 6], [20, 21, 23, 24, 25, 26, 27, 28, 29], 0⟩ ::
   ⟨⟨(some 87), .ia 1 (.t 84) (.t 86), (some (76, true))⟩, [17, 19, 9, 8, 4, 5, 7, 3, 0, 2, 1, 6, 18], [21, 23, 24, 25, 26, 27, 28, 29], 0⟩ ::
   ⟨⟨(some 88), .ld1 (.t 87), (some (76, true))⟩, [20, 9, 17, 19, 8, 4, 5, 7, 3, 0, 2, 1, 6, 18], [23, 24, 25, 26, 27, 28, 29], 1⟩ ::
   ⟨⟨(some 89), .mov (.t 9), (some (76, true))⟩, [9, 8, 4, 5, 7, 3, 0, 2, 1, 6], [23, 24, 25, 26, 27, 28, 29], 0⟩ ::
   ⟨⟨(some 90), .ia 1 (.t 88) (.t 89), (some (76, true))⟩, [21, 22, 9, 20, 17, 19, 8, 4, 5, 7, 3, 0, 2, 1, 6, 18], [24, 25, 26, 27, 28, 29], 0⟩ ::
   Tryd.fn26_r10d
def Tryd.fn26_r10b : List DIns :=
   ⟨⟨(some 79), .ia 1 (.t 77) (.t 78), (some (76, true))⟩, [10, 11, 9, 8, 4, 5, 7, 3, 0, 2, 1, 6], [13, 15, 16, 26, 27, 28, 29], 0⟩ ::
   ⟨⟨(some 80), .ld1 (.t 79), (some (76, true))⟩, [12, 9, 10, 11, 8, 4, 5, 7, 3, 0, 2, 1, 6], [15, 16, 26, 27, 28, 29], 1⟩ ::
   ⟨⟨(some 81), .mov (.t 9), (some (76, true))⟩, [9, 8, 4, 5, 7, 3, 0, 2, 1, 6], [15, 16, 26, 27, 28, 29], 0⟩ ::
   ⟨⟨(some 82), .ia 1 (.t 80) (.t 81), (some (76, true))⟩, [13, 14, 9, 12, 10, 11, 8, 4, 5, 7, 3, 0, 2, 1, 6], [16, 26, 27, 28, 29], 0⟩ ::
   ⟨⟨(some 83), .ld1 (.t 82), (some (76, true))⟩, [15, 9, 13, 14, 12, 10, 11, 8, 4, 5, 7, 3, 0, 2, 1, 6], [26, 27, 28, 29], 1⟩ ::
   ⟨⟨(some 84), .mov (.t 6), (some (76, true))⟩, [9, 8, 4, 5, 7, 3, 0, 2, 1, 6], [20, 21, 23, 24, 25, 26, 27, 28, 29], 0⟩ ::
   Tryd.fn26_r10c
def Tryd.fn26_r10a : List DIns :=
   ⟨⟨(some 73), .mov (.t 0), (some (71, false))⟩, [4, 3, 0, 2, 1], [7, 8, 9, 10, 11, 12, 13, 14, 15, 16, 17, 18, 19, 20, 21, 22, 23, 24, 25, 26, 27, 28, 29], 0⟩ ::
   ⟨⟨(some 74), .lenl (.t 73), (some (71, false))⟩, [6, 4, 3, 0, 2, 1], [8, 9, 10, 11, 12, 13, 14, 15, 16, 17, 18, 19, 20, 21, 22, 23, 24, 25, 26, 27, 28, 29], 0⟩ ::
   ⟨⟨(some 75), .bin .lss (.t 72) (.t 74), (some (71, false))⟩, [5, 7, 4, 3, 0, 2, 1, 6], [9, 10, 11, 12, 13, 14, 15, 16, 17, 18, 19, 20, 21, 22, 23, 24, 25, 26, 27, 28, 29], 0⟩ ::
   ⟨⟨(some 76), .mov (.t 75), (some (71, false))⟩, [8, 4, 5, 7, 3, 0, 2, 1, 6], [10, 11, 12, 13, 14, 15, 16, 17, 18, 19, 20, 21, 22, 23, 24, 25, 26, 27, 28, 29], 0⟩ ::
   ⟨⟨(some 77), .mov (.t 6), (some (76, true))⟩, [9, 8, 4, 5, 7, 3, 0, 2, 1, 6], [12, 13, 15, 16, 26, 27, 28, 29], 0⟩ ::
   ⟨⟨(some 78), .mov (.t 8), (some (76, true))⟩, [9, 8, 4, 5, 7, 3, 0, 2, 1, 6], [12, 13, 15, 16, 26, 27, 28, 29], 0⟩ ::
   Tryd.fn26_r10b
def Tryd.fn26_r10 : List DIns :=
   ⟨⟨(some 67), .mov (.t 9), .none⟩, [], [3, 4, 5, 6, 7, 8, 9, 10, 11, 12, 13, 14, 15, 16, 17, 18, 19, 20, 21, 22, 23, 24, 25, 26, 27, 28, 29], 0⟩ ::
   ⟨⟨(some 68), .mov (.t 1), .none⟩, [], [2, 3, 4, 5, 6, 7, 8, 9, 10, 11, 12, 13, 14, 15, 16, 17, 18, 19, 20, 21, 22, 23, 24, 25, 26, 27, 28, 29], 0⟩ ::
   ⟨⟨(some 69), .lenl (.t 68), .none⟩, [1], [3, 4, 5, 6, 7, 8, 9, 10, 11, 12, 13, 14, 15, 16, 17, 18, 19, 20, 21, 22, 23, 24, 25, 26, 27, 28, 29], 0⟩ ::
   ⟨⟨(some 70), .bin .eql (.t 67) (.t 69), .none⟩, [0, 2, 1], [4, 5, 6, 7, 8, 9, 10, 11, 12, 13, 14, 15, 16, 17, 18, 19, 20, 21, 22, 23, 24, 25, 26, 27, 28, 29], 0⟩ ::
   ⟨⟨(some 71), .mov (.t 70), .none⟩, [3, 0, 2, 1], [5, 6, 7, 8, 9, 10, 11, 12, 13, 14, 15, 16, 17, 18, 19, 20, 21, 22, 23, 24, 25, 26, 27, 28, 29], 0⟩ ::
   ⟨⟨(some 72), .mov (.t 8), (some (71, false))⟩, [4, 3, 0, 2, 1], [8, 9, 10, 11, 12, 13, 14, 15, 16, 17, 18, 19, 20, 21, 22, 23, 24, 25, 26, 27, 28, 29], 0⟩ ::
   Tryd.fn26_r10a
def Tryd.fn26_r11 : List AIns :=
   [⟨(some 96), .mov (.t 7), .none⟩,
           ⟨(some 97), .mov (.t 8), .none⟩,
           ⟨(some 98), .bld [(.int .i64 0), (.int .i64 0)] [(0, 1, (.t 97)), (1, 1, (.c (.int .i64 (-1))))], .none⟩,
           ⟨(some 99), .bsl 56 2 1 [(.int .i64 0), (.int .i64 0)] [(0, 2, (.t 98))], .none⟩,
           ⟨(some 100), .app 56 2 16 (.t 96) (.t 99), .none⟩,
           ⟨(some 7), .mov (.t 100), .none⟩]
def Tryd.fn26_r12 : List AIns :=
   [⟨(some 101), .mov (.t 8), .none⟩,
          ⟨(some 102), .bin .add (.t 101) (.c (.int .i64 1)), .none⟩,
          ⟨(some 8), .mov (.t 102), .none⟩]
def Tryd.fn26_r13 : List AIns :=
   [⟨(some 27), .mov (.t 7), .none⟩,
           ⟨(some 28), .mov (.t 9), .none⟩,
           ⟨(some 29), .bld [(.int .i64 0), (.int .i64 0)] [(0, 1, (.c (.int .i64 (-1)))), (1, 1, (.t 28))], .none⟩,
           ⟨(some 30), .bsl 56 2 1 [(.int .i64 0), (.int .i64 0)] [(0, 2, (.t 29))], .none⟩,
           ⟨(some 31), .app 56 2 16 (.t 27) (.t 30), .none⟩,
           ⟨(some 7), .mov (.t 31), .none⟩]
def Tryd.fn26_r14 : List AIns :=
   [⟨(some 32), .mov (.t 9), .none⟩,
          ⟨(some 33), .bin .add (.t 32) (.c (.int .i64 1)), .none⟩,
          ⟨(some 9), .mov (.t 33), .none⟩]
def Tryd.fn26_r15 : List AIns :=
   [⟨(some 103), .mov (.t 7), .none⟩,
    ⟨(some 4), .mov (.t 103), .none⟩,
    ⟨(some 5), .mov (.c (.int .i64 0)), .none⟩]
def Tryd.fn26_l0 : ACode :=
 (.seq (.seq (.seq (.reg Tryd.fn26_r6)
      (.trim [0, 1, 6, 7, 8, 9, 26]))
     (.cond (.t 26)
      .skip
      (.exit 0)))
    (.block 1
     (.block 2
      (.seq (.seq (.regd Tryd.fn26_r7)
       (.trim [0, 1, 6, 7, 8, 9, 34]))
      (.cond (.t 34)
       (.seq (.seq (.reg Tryd.fn26_r8)
        (.trim [0, 1, 6, 7, 8, 9]))
       (.seq (.reg Tryd.fn26_r9)
       (.trim [0, 1, 6, 7, 8, 9])))
       (.seq (.seq (.regd Tryd.fn26_r10)
        (.trim [0, 1, 6, 7, 8, 9, 66]))
       (.cond (.t 66)
        (.seq (.seq (.reg Tryd.fn26_r11)
         (.trim [0, 1, 6, 7, 8, 9]))
        (.seq (.reg Tryd.fn26_r12)
        (.trim [0, 1, 6, 7, 8, 9])))
        (.seq (.seq (.reg Tryd.fn26_r13)
         (.trim [0, 1, 6, 7, 8, 9]))
        (.seq (.reg Tryd.fn26_r14)
        (.trim [0, 1, 6, 7, 8, 9]))))))))))
def Tryd.fn26 : AFun :=
 ⟨104, [.tmp 4, .tmp 5],
 (.seq (.seq (.reg Tryd.fn26_r0)
  (.trim [0, 1]))
 (.seq (.seq (.seq (.reg Tryd.fn26_r1)
   (.trim [0, 1, 13]))
  (.cond (.t 13)
   (.seq (.seq (.reg Tryd.fn26_r2)
    (.trim [4, 5]))
   .ret)
   .skip))
 (.seq (.seq (.reg Tryd.fn26_r3)
  (.trim [0, 1, 6]))
 (.seq (.seq (.reg Tryd.fn26_r4)
  (.trim [0, 1, 6, 7]))
 (.seq (.seq (.reg Tryd.fn26_r5)
  (.trim [0, 1, 6, 7, 8, 9]))
 (.seq (.block 0
   (.loop (some [0, 1, 6, 7, 8, 9])
    Tryd.fn26_l0))
 (.seq (.seq (.reg Tryd.fn26_r15)
  (.trim [4, 5]))
 .ret))))))), true⟩
/-! signalbench/compare.shift -/
def Tryd.fn27_r0 : List AIns :=
   [⟨(some 6), .mov (.c (.int .i64 0)), .none⟩]
def Tryd.fn27_r1 : List AIns :=
   [⟨(some 9), .mov (.t 2), .none⟩,
     ⟨(some 10), .lenl (.t 9), .none⟩,
     ⟨(some 11), .mov (.c (.int .i64 0)), .none⟩]
def Tryd.fn27_r2 : List AIns :=
   [⟨(some 12), .bin .lss (.t 11) (.t 10), .none⟩]
def Tryd.fn27_r3 : List AIns :=
   [⟨(some 13), .ia 2 (.t 9) (.t 11), .none⟩,
         ⟨(some 14), .ldn 2 (.t 13), .none⟩,
         ⟨(some 8), .alloc 56 [(.int .i64 0), (.int .i64 0)], .none⟩,
         ⟨.none, .st 2 (.t 8) (.t 14), .none⟩]
def Tryd.fn27_r4 : List AIns :=
   [⟨(some 15), .fa 0 (.t 8), .none⟩,
         ⟨(some 16), .ld1 (.t 15), .none⟩,
         ⟨(some 17), .bin .geq (.t 16) (.c (.int .i64 0)), .none⟩,
         ⟨(some 18), .mov (.t 17), .none⟩,
         ⟨(some 19), .fa 1 (.t 8), (some (18, true))⟩,
         ⟨(some 20), .ld1 (.t 19), (some (18, true))⟩,
         ⟨(some 21), .bin .geq (.t 20) (.c (.int .i64 0)), (some (18, true))⟩,
         ⟨(some 22), .pick (.t 18) (.t 21) (.c (.bool false)), .none⟩]
def Tryd.fn27_r5b : List DIns :=
   ⟨⟨(some 35), .bin .sub (.t 28) (.t 34), .none⟩, [5, 11, 4, 3, 0, 2, 1, 10, 9, 6, 8, 7], [13], 0⟩ ::
   ⟨⟨(some 6), .mov (.t 35), .none⟩, [12, 0, 1, 2, 3, 4, 5, 6, 7, 8, 9, 10, 11], [], 0⟩ ::
   []
def Tryd.fn27_r5a : List DIns :=
   ⟨⟨(some 29), .mov (.t 0), .none⟩, [], [9, 10, 11, 12, 13], 0⟩ ::
   ⟨⟨(some 30), .fa 0 (.t 8), .none⟩, [], [8, 9, 10, 11, 12, 13], 0⟩ ::
   ⟨⟨(some 31), .ld1 (.t 30), .none⟩, [7], [9, 10, 11, 12, 13], 1⟩ ::
   ⟨⟨(some 32), .ia 7 (.t 29) (.t 31), .none⟩, [6, 8, 7], [10, 11, 12, 13], 0⟩ ::
   ⟨⟨(some 33), .fa 1 (.t 32), .none⟩, [9, 6, 8, 7], [11, 12, 13], 0⟩ ::
   ⟨⟨(some 34), .ld1 (.t 33), .none⟩, [10, 9, 6, 8, 7], [12, 13], 1⟩ ::
   Tryd.fn27_r5b
def Tryd.fn27_r5 : List DIns :=
   ⟨⟨(some 23), .mov (.t 1), .none⟩, [], [3, 4, 5, 12, 13], 0⟩ ::
   ⟨⟨(some 24), .fa 1 (.t 8), .none⟩, [], [2, 3, 4, 5, 12, 13], 0⟩ ::
   ⟨⟨(some 25), .ld1 (.t 24), .none⟩, [1], [3, 4, 5, 12, 13], 1⟩ ::
   ⟨⟨(some 26), .ia 7 (.t 23) (.t 25), .none⟩, [0, 2, 1], [4, 5, 12, 13], 0⟩ ::
   ⟨⟨(some 27), .fa 1 (.t 26), .none⟩, [3, 0, 2, 1], [5, 12, 13], 0⟩ ::
   ⟨⟨(some 28), .ld1 (.t 27), .none⟩, [4, 3, 0, 2, 1], [12, 13], 1⟩ ::
   Tryd.fn27_r5a
def Tryd.fn27_r6 : List AIns :=
   [⟨(some 36), .bin .add (.t 11) (.c (.int .i64 1)), .none⟩,
      ⟨(some 11), .mov (.t 36), .none⟩]
def Tryd.fn27_r7 : List AIns :=
   [⟨(some 6), .mov (.c (.int .i64 0)), .none⟩]
def Tryd.fn27_l0 : ACode :=
 (.seq (.seq (.reg Tryd.fn27_r2)
     (.trim [0, 1, 9, 10, 11, 12]))
    (.seq (.cond (.t 12)
      .skip
      (.exit 0))
    (.seq (.block 1
      (.seq (.seq (.reg Tryd.fn27_r3)
       (.trim [0, 1, 8, 9, 10, 11]))
      (.seq (.seq (.reg Tryd.fn27_r4)
       (.trim [0, 1, 8, 9, 10, 11, 22]))
      (.cond (.t 22)
       (.seq (.seq (.regd Tryd.fn27_r5)
        (.trim [6]))
       .ret)
       .skip))))
    (.seq (.reg Tryd.fn27_r6)
    (.trim [0, 1, 9, 10, 11])))))
def Tryd.fn27 : AFun :=
 ⟨37, [.tmp 6],
 (.seq (.seq (.reg Tryd.fn27_r0)
  (.trim [0, 1, 2]))
 (.seq (.seq (.seq (.reg Tryd.fn27_r1)
   (.trim [0, 1, 9, 10, 11]))
  (.block 0
   (.loop (some [0, 1, 9, 10, 11])
    Tryd.fn27_l0)))
 (.seq (.seq (.reg Tryd.fn27_r7)
  (.trim [6]))
 .ret))), true⟩
/-! signalbench/compare.change -/
def Tryd.fn28_r0 : List AIns :=
   [⟨(some 7), .box 56 (.t 2), .none⟩,
    ⟨(some 10), .alloc 48 [(.int .i64 0), (.int .i64 0), (.int .i64 0)], .none⟩]
def Tryd.fn28_r1 : List AIns :=
   [⟨(some 13), .fa 1 (.t 7), .none⟩,
      ⟨(some 14), .ld1 (.t 13), .none⟩,
      ⟨(some 15), .bin .lss (.t 14) (.c (.int .i64 0)), .none⟩,
      ⟨(some 12), .mov (.t 15), .none⟩]
def Tryd.fn28_r2 : List AIns :=
   [⟨(some 16), .fa 0 (.t 7), .none⟩,
       ⟨(some 17), .ld1 (.t 16), .none⟩,
       ⟨(some 18), .bld [(.int .i64 0), (.int .i64 0), (.int .i64 0)] [(0, 1, (.c (.int .i64 1))), (1, 1, (.t 17)), (2, 1, (.c (.int .i64 (-1))))], .none⟩,
       ⟨.none, .st 3 (.t 10) (.t 18), .none⟩]
def Tryd.fn28_r3 : List AIns :=
   [⟨(some 20), .fa 0 (.t 7), .none⟩,
       ⟨(some 21), .ld1 (.t 20), .none⟩,
       ⟨(some 22), .bin .lss (.t 21) (.c (.int .i64 0)), .none⟩,
       ⟨(some 19), .mov (.t 22), .none⟩]
def Tryd.fn28_r4 : List AIns :=
   [⟨(some 23), .fa 1 (.t 7), .none⟩,
        ⟨(some 24), .ld1 (.t 23), .none⟩,
        ⟨(some 25), .bld [(.int .i64 0), (.int .i64 0), (.int .i64 0)] [(0, 1, (.c (.int .i64 2))), (1, 1, (.c (.int .i64 (-1)))), (2, 1, (.t 24))], .none⟩,
        ⟨.none, .st 3 (.t 10) (.t 25), .none⟩]
def Tryd.fn28_r5b : List DIns :=
   ⟨⟨(some 38), .bin .sub (.t 31) (.t 37), .none⟩, [5, 11, 4, 3, 0, 2, 1, 10, 9, 6, 8, 7], [14, 15], 0⟩ ::
   ⟨⟨(some 39), .mov (.t 3), .none⟩, [], [14, 15], 0⟩ ::
   ⟨⟨(some 40), .bin .sub (.t 38) (.t 39), .none⟩, [12, 13, 5, 11, 4, 3, 0, 2, 1, 10, 9, 6, 8, 7], [15], 0⟩ ::
   ⟨⟨(some 11), .mov (.t 40), .none⟩, [14, 0, 1, 2, 3, 4, 5, 6, 7, 8, 9, 10, 11, 12, 13], [], 0⟩ ::
   []
def Tryd.fn28_r5a : List DIns :=
   ⟨⟨(some 32), .mov (.t 0), .none⟩, [], [9, 10, 11, 12, 14, 15], 0⟩ ::
   ⟨⟨(some 33), .fa 0 (.t 7), .none⟩, [], [8, 9, 10, 11, 12, 14, 15], 0⟩ ::
   ⟨⟨(some 34), .ld1 (.t 33), .none⟩, [7], [9, 10, 11, 12, 14, 15], 1⟩ ::
   ⟨⟨(some 35), .ia 7 (.t 32) (.t 34), .none⟩, [6, 8, 7], [10, 11, 12, 14, 15], 0⟩ ::
   ⟨⟨(some 36), .fa 1 (.t 35), .none⟩, [9, 6, 8, 7], [11, 12, 14, 15], 0⟩ ::
   ⟨⟨(some 37), .ld1 (.t 36), .none⟩, [10, 9, 6, 8, 7], [12, 14, 15], 1⟩ ::
   Tryd.fn28_r5b
def Tryd.fn28_r5 : List DIns :=
   ⟨⟨(some 26), .mov (.t 1), .none⟩, [], [3, 4, 5, 12, 14, 15], 0⟩ ::
   ⟨⟨(some 27), .fa 1 (.t 7), .none⟩, [], [2, 3, 4, 5, 12, 14, 15], 0⟩ ::
   ⟨⟨(some 28), .ld1 (.t 27), .none⟩, [1], [3, 4, 5, 12, 14, 15], 1⟩ ::
   ⟨⟨(some 29), .ia 7 (.t 26) (.t 28), .none⟩, [0, 2, 1], [4, 5, 12, 14, 15], 0⟩ ::
   ⟨⟨(some 30), .fa 1 (.t 29), .none⟩, [3, 0, 2, 1], [5, 12, 14, 15], 0⟩ ::
   ⟨⟨(some 31), .ld1 (.t 30), .none⟩, [4, 3, 0, 2, 1], [12, 14, 15], 1⟩ ::
   Tryd.fn28_r5a
def Tryd.fn28_r6 : List AIns :=
   [⟨(some 41), .mov (.t 11), .none⟩,
     ⟨(some 42), .mov (.t 11), .none⟩,
     ⟨(some 43), .un .neg (.t 42), .none⟩,
     ⟨(some 44), .mx (.t 41) (.t 43), .none⟩,
     ⟨(some 45), .mov (.t 4), .none⟩,
     ⟨(some 46), .bin .gtr (.t 44) (.t 45), .none⟩]
def Tryd.fn28_r7 : List AIns :=
   [⟨(some 47), .fa 0 (.t 7), .none⟩,
      ⟨(some 48), .ld1 (.t 47), .none⟩,
      ⟨(some 49), .fa 1 (.t 7), .none⟩,
      ⟨(some 50), .ld1 (.t 49), .none⟩,
      ⟨(some 51), .bld [(.int .i64 0), (.int .i64 0), (.int .i64 0)] [(0, 1, (.c (.int .i64 3))), (1, 1, (.t 48)), (2, 1, (.t 50))], .none⟩,
      ⟨.none, .st 3 (.t 10) (.t 51), .none⟩]
def Tryd.fn28_r8 : List AIns :=
   [⟨(some 52), .bld [(.int .i64 0), (.int .i64 0), (.int .i64 0)] [], .none⟩,
    ⟨.none, .st 3 (.t 10) (.t 52), .none⟩]
def Tryd.fn28 : AFun :=
 ⟨53, [.celln 10 3],
 (.seq (.seq (.reg Tryd.fn28_r0)
  (.trim [0, 1, 3, 4, 7, 10]))
 (.seq (.block 0
   (.seq (.seq (.reg Tryd.fn28_r1)
    (.trim [0, 1, 3, 4, 7, 10, 12]))
   (.cond (.t 12)
    (.seq (.seq (.reg Tryd.fn28_r2)
     (.trim [10]))
    .ret)
    (.seq (.seq (.reg Tryd.fn28_r3)
     (.trim [0, 1, 3, 4, 7, 10, 19]))
    (.cond (.t 19)
     (.seq (.seq (.reg Tryd.fn28_r4)
      (.trim [10]))
     .ret)
     .skip)))))
 (.seq (.seq (.regd Tryd.fn28_r5)
  (.trim [4, 7, 10, 11]))
 (.seq (.seq (.seq (.reg Tryd.fn28_r6)
   (.trim [7, 10, 46]))
  (.cond (.t 46)
   (.seq (.seq (.reg Tryd.fn28_r7)
    (.trim [10]))
   .ret)
   .skip))
 (.seq (.seq (.reg Tryd.fn28_r8)
  (.trim [10]))
 .ret))))), true⟩
/-! signalbench/signalbenchref55.keys -/
def Tryd.fn29_r0 : List AIns :=
   [⟨(some 2), .mov (.c .nils), .none⟩,
    ⟨(some 3), .mov (.c (.bool false)), .none⟩]
def Tryd.fn29_r1 : List AIns :=
   [⟨(some 6), .mov (.t 0), .none⟩,
    ⟨(some 7), .lenl (.t 6), .none⟩,
    ⟨(some 8), .mks 9 1 16 [(.str [])] (.c (.int .i64 0)) (.t 7), .none⟩,
    ⟨(some 4), .mov (.t 8), .none⟩]
def Tryd.fn29_r2 : List AIns :=
   [⟨(some 5), .mov (.c (.int .i64 0)), .none⟩]
def Tryd.fn29_r3 : List AIns :=
   [⟨(some 9), .mov (.t 5), .none⟩,
        ⟨(some 10), .mov (.t 0), .none⟩,
        ⟨(some 11), .lenl (.t 10), .none⟩,
        ⟨(some 12), .bin .lss (.t 9) (.t 11), .none⟩]
def Tryd.fn29_r4 : List AIns :=
   [⟨(some 15), .mov (.t 0), .none⟩,
          ⟨(some 16), .mov (.t 5), .none⟩,
          ⟨(some 17), .ia 7 (.t 15) (.t 16), .none⟩,
          ⟨(some 18), .ldn 7 (.t 17), .none⟩,
          ⟨(some 19), .call 21 [(.t 18)], .none⟩,
          ⟨(some 20), .un .not (.t 19), .none⟩]
def Tryd.fn29_r5 : List AIns :=
   [⟨(some 2), .mov (.c .nils), .none⟩,
           ⟨(some 3), .mov (.c (.bool false)), .none⟩]
def Tryd.fn29_r6 : List AIns :=
   [⟨(some 21), .mov (.t 4), .none⟩,
        ⟨(some 22), .mov (.t 0), .none⟩,
        ⟨(some 23), .mov (.t 5), .none⟩,
        ⟨(some 24), .ia 7 (.t 22) (.t 23), .none⟩,
        ⟨(some 25), .ldn 7 (.t 24), .none⟩,
        ⟨(some 26), .call 8 [(.t 25)], .none⟩,
        ⟨(some 27), .bsl 9 1 1 [(.str [])] [(0, 1, (.t 26))], .none⟩,
        ⟨(some 28), .app 9 1 16 (.t 21) (.t 27), .none⟩,
        ⟨(some 4), .mov (.t 28), .none⟩]
def Tryd.fn29_r7 : List AIns :=
   [⟨(some 13), .mov (.t 5), .none⟩,
      ⟨(some 14), .bin .add (.t 13) (.c (.int .i64 1)), .none⟩,
      ⟨(some 5), .mov (.t 14), .none⟩]
def Tryd.fn29_r8 : List AIns :=
   [⟨(some 29), .mov (.t 4), .none⟩,
    ⟨(some 2), .mov (.t 29), .none⟩,
    ⟨(some 3), .mov (.c (.bool true)), .none⟩]
def Tryd.fn29_l0 : ACode :=
 (.seq (.seq (.seq (.reg Tryd.fn29_r3)
      (.trim [0, 4, 5, 12]))
     (.cond (.t 12)
      .skip
      (.exit 0)))
    (.seq (.block 1
      (.seq (.seq (.seq (.reg Tryd.fn29_r4)
        (.trim [0, 4, 5, 20]))
       (.cond (.t 20)
        (.seq (.seq (.reg Tryd.fn29_r5)
         (.trim [2, 3]))
        .ret)
        .skip))
      (.seq (.reg Tryd.fn29_r6)
      (.trim [0, 4, 5]))))
    (.seq (.reg Tryd.fn29_r7)
    (.trim [0, 4, 5]))))
def Tryd.fn29 : AFun :=
 ⟨30, [.tmp 2, .tmp 3],
 (.seq (.seq (.reg Tryd.fn29_r0)
  (.trim [0]))
 (.seq (.seq (.reg Tryd.fn29_r1)
  (.trim [0, 4]))
 (.seq (.seq (.seq (.reg Tryd.fn29_r2)
   (.trim [0, 4, 5]))
  (.block 0
   (.loop (some [0, 4, 5])
    Tryd.fn29_l0)))
 (.seq (.seq (.reg Tryd.fn29_r8)
  (.trim [2, 3]))
 .ret)))), true⟩
/-! signalbench/signalbenchref54.Pairs -/
def Tryd.fn30_r0 : List AIns :=
   [⟨(some 4), .mov (.c .nils), .none⟩,
    ⟨(some 5), .mov (.c (.int .i64 0)), .none⟩]
def Tryd.fn30_r1 : List AIns :=
   [⟨(some 10), .mov (.t 0), .none⟩,
     ⟨(some 11), .lenl (.t 10), .none⟩,
     ⟨(some 12), .bin .gtr (.t 11) (.c (.int .i64 512)), .none⟩,
     ⟨(some 13), .mov (.t 12), .none⟩,
     ⟨(some 14), .mov (.t 1), (some (13, false))⟩,
     ⟨(some 15), .lenl (.t 14), (some (13, false))⟩,
     ⟨(some 16), .bin .gtr (.t 15) (.c (.int .i64 512)), (some (13, false))⟩,
     ⟨(some 17), .pick (.t 13) (.c (.bool true)) (.t 16), .none⟩]
def Tryd.fn30_r2 : List AIns :=
   [⟨(some 4), .mov (.c .nils), .none⟩,
      ⟨(some 5), .mov (.c (.int .i64 6)), .none⟩]
def Tryd.fn30_r3 : List AIns :=
   [⟨(some 18), .mov (.t 0), .none⟩,
    ⟨(some 19), .mov (.t 1), .none⟩,
    ⟨(some 20), .call 42 [(.t 18), (.t 19)], .none⟩,
    ⟨(some 21), .bsl 56 2 0 [(.int .i64 0), (.int .i64 0)] [], .none⟩,
    ⟨(some 6), .mov (.t 20), .none⟩,
    ⟨(some 7), .mov (.t 21), .none⟩]
def Tryd.fn30_r4 : List AIns :=
   [⟨(some 8), .mov (.c (.int .i64 0)), .none⟩,
    ⟨(some 9), .mov (.c (.int .i64 0)), .none⟩]
def Tryd.fn30_r5 : List AIns :=
   [⟨(some 22), .mov (.t 8), .none⟩,
        ⟨(some 23), .mov (.t 0), .none⟩,
        ⟨(some 24), .lenl (.t 23), .none⟩,
        ⟨(some 25), .bin .lss (.t 22) (.t 24), .none⟩,
        ⟨(some 26), .mov (.t 25), .none⟩,
        ⟨(some 27), .mov (.t 9), (some (26, false))⟩,
        ⟨(some 28), .mov (.t 1), (some (26, false))⟩,
        ⟨(some 29), .lenl (.t 28), (some (26, false))⟩,
        ⟨(some 30), .bin .lss (.t 27) (.t 29), (some (26, false))⟩,
        ⟨(some 31), .pick (.t 26) (.c (.bool true)) (.t 30), .none⟩]
def Tryd.fn30_r6c : List DIns :=
   ⟨⟨(some 50), .ld1 (.t 49), (some (42, true))⟩, [17, 10, 15, 16, 9, 4, 8, 3, 0, 2, 1, 5, 7, 6], [19, 20], 1⟩ ::
   ⟨⟨(some 51), .bin .eql (.t 46) (.t 50), (some (42, true))⟩, [14, 18, 10, 13, 11, 12, 9, 4, 8, 3, 0, 2, 1, 5, 7, 6, 17, 15, 16], [20], 0⟩ ::
   ⟨⟨(some 52), .pick (.t 42) (.t 51) (.c (.bool false)), .none⟩, [10, 19, 9, 4, 8, 3, 0, 2, 1, 5, 7, 6, 14, 18, 13, 11, 12, 17, 15, 16], [], 0⟩ ::
   []
def Tryd.fn30_r6b : List DIns :=
   ⟨⟨(some 44), .mov (.t 8), (some (42, true))⟩, [10, 9, 4, 8, 3, 0, 2, 1, 5, 7, 6], [13, 14, 19, 20], 0⟩ ::
   ⟨⟨(some 45), .ia 1 (.t 43) (.t 44), (some (42, true))⟩, [11, 12, 10, 9, 4, 8, 3, 0, 2, 1, 5, 7, 6], [14, 19, 20], 0⟩ ::
   ⟨⟨(some 46), .ld1 (.t 45), (some (42, true))⟩, [13, 10, 11, 12, 9, 4, 8, 3, 0, 2, 1, 5, 7, 6], [19, 20], 1⟩ ::
   ⟨⟨(some 47), .mov (.t 1), (some (42, true))⟩, [10, 9, 4, 8, 3, 0, 2, 1, 5, 7, 6], [17, 18, 19, 20], 0⟩ ::
   ⟨⟨(some 48), .mov (.t 9), (some (42, true))⟩, [10, 9, 4, 8, 3, 0, 2, 1, 5, 7, 6], [17, 18, 19, 20], 0⟩ ::
   ⟨⟨(some 49), .ia 1 (.t 47) (.t 48), (some (42, true))⟩, [15, 16, 10, 9, 4, 8, 3, 0, 2, 1, 5, 7, 6], [18, 19, 20], 0⟩ ::
   Tryd.fn30_r6c
def Tryd.fn30_r6a : List DIns :=
   ⟨⟨(some 38), .mov (.t 1), (some (36, true))⟩, [4, 3, 0, 2, 1], [7, 8, 9, 10, 11, 12, 13, 14, 15, 16, 17, 18, 19, 20], 0⟩ ::
   ⟨⟨(some 39), .lenl (.t 38), (some (36, true))⟩, [6, 4, 3, 0, 2, 1], [8, 9, 10, 11, 12, 13, 14, 15, 16, 17, 18, 19, 20], 0⟩ ::
   ⟨⟨(some 40), .bin .lss (.t 37) (.t 39), (some (36, true))⟩, [5, 7, 4, 3, 0, 2, 1, 6], [9, 10, 11, 12, 13, 14, 15, 16, 17, 18, 19, 20], 0⟩ ::
   ⟨⟨(some 41), .pick (.t 36) (.t 40) (.c (.bool false)), .none⟩, [4, 8, 3, 0, 2, 1, 5, 7, 6], [10, 11, 12, 13, 14, 15, 16, 17, 18, 19, 20], 0⟩ ::
   ⟨⟨(some 42), .mov (.t 41), .none⟩, [9, 4, 8, 3, 0, 2, 1, 5, 7, 6], [11, 12, 13, 14, 15, 16, 17, 18, 19, 20], 0⟩ ::
   ⟨⟨(some 43), .mov (.t 0), (some (42, true))⟩, [10, 9, 4, 8, 3, 0, 2, 1, 5, 7, 6], [13, 14, 19, 20], 0⟩ ::
   Tryd.fn30_r6b
def Tryd.fn30_r6 : List DIns :=
   ⟨⟨(some 32), .mov (.t 8), .none⟩, [], [3, 4, 5, 6, 7, 8, 9, 10, 11, 12, 13, 14, 15, 16, 17, 18, 19, 20], 0⟩ ::
   ⟨⟨(some 33), .mov (.t 0), .none⟩, [], [2, 3, 4, 5, 6, 7, 8, 9, 10, 11, 12, 13, 14, 15, 16, 17, 18, 19, 20], 0⟩ ::
   ⟨⟨(some 34), .lenl (.t 33), .none⟩, [1], [3, 4, 5, 6, 7, 8, 9, 10, 11, 12, 13, 14, 15, 16, 17, 18, 19, 20], 0⟩ ::
   ⟨⟨(some 35), .bin .lss (.t 32) (.t 34), .none⟩, [0, 2, 1], [4, 5, 6, 7, 8, 9, 10, 11, 12, 13, 14, 15, 16, 17, 18, 19, 20], 0⟩ ::
   ⟨⟨(some 36), .mov (.t 35), .none⟩, [3, 0, 2, 1], [5, 6, 7, 8, 9, 10, 11, 12, 13, 14, 15, 16, 17, 18, 19, 20], 0⟩ ::
   ⟨⟨(some 37), .mov (.t 9), (some (36, true))⟩, [4, 3, 0, 2, 1], [8, 9, 10, 11, 12, 13, 14, 15, 16, 17, 18, 19, 20], 0⟩ ::
   Tryd.fn30_r6a
def Tryd.fn30_r7 : List AIns :=
   [⟨(some 53), .mov (.t 7), .none⟩,
         ⟨(some 54), .mov (.t 8), .none⟩,
         ⟨(some 55), .mov (.t 9), .none⟩,
         ⟨(some 56), .bld [(.int .i64 0), (.int .i64 0)] [(0, 1, (.t 54)), (1, 1, (.t 55))], .none⟩,
         ⟨(some 57), .bsl 56 2 1 [(.int .i64 0), (.int .i64 0)] [(0, 2, (.t 56))], .none⟩,
         ⟨(some 58), .app 56 2 16 (.t 53) (.t 57), .none⟩,
         ⟨(some 7), .mov (.t 58), .none⟩]
def Tryd.fn30_r8 : List AIns :=
   [⟨(some 59), .mov (.t 8), .none⟩,
         ⟨(some 60), .bin .add (.t 59) (.c (.int .i64 1)), .none⟩,
         ⟨(some 8), .mov (.t 60), .none⟩]
def Tryd.fn30_r9 : List AIns :=
   [⟨(some 61), .mov (.t 9), .none⟩,
        ⟨(some 62), .bin .add (.t 61) (.c (.int .i64 1)), .none⟩,
        ⟨(some 9), .mov (.t 62), .none⟩]
def Tryd.fn30_r10c : List DIns :=
   ⟨⟨(some 81), .mov (.t 9), (some (67, true))⟩, [4, 3, 0, 2, 1], [19, 20, 21, 22], 0⟩ ::
   ⟨⟨(some 82), .ia 1 (.t 80) (.t 81), (some (67, true))⟩, [17, 18, 4, 16, 14, 15, 3, 0, 2, 1], [20, 21, 22], 0⟩ ::
   ⟨⟨(some 83), .ld1 (.t 82), (some (67, true))⟩, [19, 4, 17, 18, 16, 14, 15, 3, 0, 2, 1], [21, 22], 1⟩ ::
   ⟨⟨(some 84), .bin .eql (.t 76) (.t 83), (some (67, true))⟩, [13, 20, 4, 12, 11, 9, 10, 8, 5, 7, 3, 0, 2, 1, 6, 19, 17, 18, 16, 14, 15], [22], 0⟩ ::
   ⟨⟨(some 85), .pick (.t 67) (.t 84) (.c (.bool false)), .none⟩, [4, 21, 3, 0, 2, 1, 13, 20, 12, 11, 9, 10, 8, 5, 7, 6, 19, 17, 18, 16, 14, 15], [], 0⟩ ::
   []
def Tryd.fn30_r10b : List DIns :=
   ⟨⟨(some 75), .ld1 (.t 74), (some (67, true))⟩, [11, 4, 9, 10, 8, 5, 7, 3, 0, 2, 1, 6], [13, 21, 22], 1⟩ ::
   ⟨⟨(some 76), .bin .add (.t 75) (.c (.int .i64 1)), (some (67, true))⟩, [12, 4, 11, 9, 10, 8, 5, 7, 3, 0, 2, 1, 6], [21, 22], 0⟩ ::
   ⟨⟨(some 77), .mov (.t 6), (some (67, true))⟩, [4, 3, 0, 2, 1], [16, 17, 19, 20, 21, 22], 0⟩ ::
   ⟨⟨(some 78), .mov (.t 8), (some (67, true))⟩, [4, 3, 0, 2, 1], [16, 17, 19, 20, 21, 22], 0⟩ ::
   ⟨⟨(some 79), .ia 1 (.t 77) (.t 78), (some (67, true))⟩, [14, 15, 4, 3, 0, 2, 1], [17, 19, 20, 21, 22], 0⟩ ::
   ⟨⟨(some 80), .ld1 (.t 79), (some (67, true))⟩, [16, 4, 14, 15, 3, 0, 2, 1], [19, 20, 21, 22], 1⟩ ::
   Tryd.fn30_r10c
def Tryd.fn30_r10a : List DIns :=
   ⟨⟨(some 69), .mov (.t 8), (some (67, true))⟩, [4, 3, 0, 2, 1], [7, 8, 9, 11, 12, 13, 21, 22], 0⟩ ::
   ⟨⟨(some 70), .bin .add (.t 69) (.c (.int .i64 1)), (some (67, true))⟩, [6, 4, 3, 0, 2, 1], [8, 9, 11, 12, 13, 21, 22], 0⟩ ::
   ⟨⟨(some 71), .ia 1 (.t 68) (.t 70), (some (67, true))⟩, [5, 7, 4, 3, 0, 2, 1, 6], [9, 11, 12, 13, 21, 22], 0⟩ ::
   ⟨⟨(some 72), .ld1 (.t 71), (some (67, true))⟩, [8, 4, 5, 7, 3, 0, 2, 1, 6], [11, 12, 13, 21, 22], 1⟩ ::
   ⟨⟨(some 73), .mov (.t 9), (some (67, true))⟩, [4, 3, 0, 2, 1], [11, 12, 13, 21, 22], 0⟩ ::
   ⟨⟨(some 74), .ia 1 (.t 72) (.t 73), (some (67, true))⟩, [9, 10, 4, 8, 5, 7, 3, 0, 2, 1, 6], [12, 13, 21, 22], 0⟩ ::
   Tryd.fn30_r10b
def Tryd.fn30_r10 : List DIns :=
   ⟨⟨(some 63), .mov (.t 8), .none⟩, [], [3, 4, 5, 6, 7, 8, 9, 10, 11, 12, 13, 14, 15, 16, 17, 18, 19, 20, 21, 22], 0⟩ ::
   ⟨⟨(some 64), .mov (.t 0), .none⟩, [], [2, 3, 4, 5, 6, 7, 8, 9, 10, 11, 12, 13, 14, 15, 16, 17, 18, 19, 20, 21, 22], 0⟩ ::
   ⟨⟨(some 65), .lenl (.t 64), .none⟩, [1], [3, 4, 5, 6, 7, 8, 9, 10, 11, 12, 13, 14, 15, 16, 17, 18, 19, 20, 21, 22], 0⟩ ::
   ⟨⟨(some 66), .bin .lss (.t 63) (.t 65), .none⟩, [0, 2, 1], [4, 5, 6, 7, 8, 9, 10, 11, 12, 13, 14, 15, 16, 17, 18, 19, 20, 21, 22], 0⟩ ::
   ⟨⟨(some 67), .mov (.t 66), .none⟩, [3, 0, 2, 1], [5, 6, 7, 8, 9, 10, 11, 12, 13, 14, 15, 16, 17, 18, 19, 20, 21, 22], 0⟩ ::
   ⟨⟨(some 68), .mov (.t 6), (some (67, true))⟩, [4, 3, 0, 2, 1], [8, 9, 11, 12, 13, 21, 22], 0⟩ ::
   Tryd.fn30_r10a
def Tryd.fn30_r11 : List AIns :=
   [⟨(some 86), .mov (.t 7), .none⟩,
          ⟨(some 87), .mov (.t 8), .none⟩,
          ⟨(some 88), .bld [(.int .i64 0), (.int .i64 0)] [(0, 1, (.t 87)), (1, 1, (.c (.int .i64 (-1))))], .none⟩,
          ⟨(some 89), .bsl 56 2 1 [(.int .i64 0), (.int .i64 0)] [(0, 2, (.t 88))], .none⟩,
          ⟨(some 90), .app 56 2 16 (.t 86) (.t 89), .none⟩,
          ⟨(some 7), .mov (.t 90), .none⟩]
def Tryd.fn30_r12 : List AIns :=
   [⟨(some 91), .mov (.t 8), .none⟩,
         ⟨(some 92), .bin .add (.t 91) (.c (.int .i64 1)), .none⟩,
         ⟨(some 8), .mov (.t 92), .none⟩]
def Tryd.fn30_r13 : List AIns :=
   [⟨(some 93), .mov (.t 7), .none⟩,
          ⟨(some 94), .mov (.t 9), .none⟩,
          ⟨(some 95), .bld [(.int .i64 0), (.int .i64 0)] [(0, 1, (.c (.int .i64 (-1)))), (1, 1, (.t 94))], .none⟩,
          ⟨(some 96), .bsl 56 2 1 [(.int .i64 0), (.int .i64 0)] [(0, 2, (.t 95))], .none⟩,
          ⟨(some 97), .app 56 2 16 (.t 93) (.t 96), .none⟩,
          ⟨(some 7), .mov (.t 97), .none⟩]
def Tryd.fn30_r14 : List AIns :=
   [⟨(some 98), .mov (.t 9), .none⟩,
         ⟨(some 99), .bin .add (.t 98) (.c (.int .i64 1)), .none⟩,
         ⟨(some 9), .mov (.t 99), .none⟩]
def Tryd.fn30_r15 : List AIns :=
   [⟨(some 100), .mov (.t 7), .none⟩,
    ⟨(some 4), .mov (.t 100), .none⟩,
    ⟨(some 5), .mov (.c (.int .i64 0)), .none⟩]
def Tryd.fn30_l0 : ACode :=
 (.seq (.seq (.seq (.reg Tryd.fn30_r5)
      (.trim [0, 1, 6, 7, 8, 9, 31]))
     (.cond (.t 31)
      .skip
      (.exit 0)))
    (.block 1
     (.seq (.seq (.regd Tryd.fn30_r6)
      (.trim [0, 1, 6, 7, 8, 9, 52]))
     (.cond (.t 52)
      (.seq (.seq (.reg Tryd.fn30_r7)
       (.trim [0, 1, 6, 7, 8, 9]))
      (.seq (.seq (.reg Tryd.fn30_r8)
       (.trim [0, 1, 6, 7, 8, 9]))
      (.seq (.reg Tryd.fn30_r9)
      (.trim [0, 1, 6, 7, 8, 9]))))
      (.seq (.seq (.regd Tryd.fn30_r10)
       (.trim [0, 1, 6, 7, 8, 9, 85]))
      (.cond (.t 85)
       (.seq (.seq (.reg Tryd.fn30_r11)
        (.trim [0, 1, 6, 7, 8, 9]))
       (.seq (.reg Tryd.fn30_r12)
       (.trim [0, 1, 6, 7, 8, 9])))
       (.seq (.seq (.reg Tryd.fn30_r13)
        (.trim [0, 1, 6, 7, 8, 9]))
       (.seq (.reg Tryd.fn30_r14)
       (.trim [0, 1, 6, 7, 8, 9])))))))))
def Tryd.fn30 : AFun :=
 ⟨101, [.tmp 4, .tmp 5],
 (.seq (.seq (.reg Tryd.fn30_r0)
  (.trim [0, 1]))
 (.seq (.seq (.seq (.reg Tryd.fn30_r1)
   (.trim [0, 1, 17]))
  (.cond (.t 17)
   (.seq (.seq (.reg Tryd.fn30_r2)
    (.trim [4, 5]))
   .ret)
   .skip))
 (.seq (.seq (.reg Tryd.fn30_r3)
  (.trim [0, 1, 6, 7]))
 (.seq (.seq (.reg Tryd.fn30_r4)
  (.trim [0, 1, 6, 7, 8, 9]))
 (.seq (.block 0
   (.loop (some [0, 1, 6, 7, 8, 9])
    Tryd.fn30_l0))
 (.seq (.seq (.reg Tryd.fn30_r15)
  (.trim [4, 5]))
 .ret)))))), true⟩
/-! signalbench/signalbenchref55.shift -/
def Tryd.fn31_r0 : List AIns :=
   [⟨(some 6), .mov (.c (.int .i64 0)), .none⟩]
def Tryd.fn31_r1 : List AIns :=
   [⟨(some 7), .mov (.c (.int .i64 0)), .none⟩]
def Tryd.fn31_r2 : List AIns :=
   [⟨(some 8), .mov (.t 7), .none⟩,
        ⟨(some 9), .mov (.t 2), .none⟩,
        ⟨(some 10), .lenl (.t 9), .none⟩,
        ⟨(some 11), .bin .lss (.t 8) (.t 10), .none⟩]
def Tryd.fn31_r3 : List AIns :=
   [⟨(some 14), .mov (.t 2), .none⟩,
          ⟨(some 15), .mov (.t 7), .none⟩,
          ⟨(some 16), .ia 2 (.t 14) (.t 15), .none⟩,
          ⟨(some 17), .fa 0 (.t 16), .none⟩,
          ⟨(some 18), .ld1 (.t 17), .none⟩,
          ⟨(some 19), .bin .geq (.t 18) (.c (.int .i64 0)), .none⟩,
          ⟨(some 20), .mov (.t 19), .none⟩,
          ⟨(some 21), .mov (.t 2), (some (20, true))⟩,
          ⟨(some 22), .mov (.t 7), (some (20, true))⟩,
          ⟨(some 23), .ia 2 (.t 21) (.t 22), (some (20, true))⟩]
def Tryd.fn31_r4 : List AIns :=
   [⟨(some 24), .fa 1 (.t 23), (some (20, true))⟩,
         ⟨(some 25), .ld1 (.t 24), (some (20, true))⟩,
         ⟨(some 26), .bin .geq (.t 25) (.c (.int .i64 0)), (some (20, true))⟩,
         ⟨(some 27), .pick (.t 20) (.t 26) (.c (.bool false)), .none⟩]
def Tryd.fn31_r5c : List DIns :=
   ⟨⟨(some 46), .bin .sub (.t 36) (.t 45), .none⟩, [8, 17, 7, 6, 0, 5, 4, 3, 1, 2, 16, 15, 9, 14, 13, 12, 10, 11], [19], 0⟩ ::
   ⟨⟨(some 6), .mov (.t 46), .none⟩, [18, 0, 1, 2, 3, 4, 5, 6, 7, 8, 9, 10, 11, 12, 13, 14, 15, 16, 17], [], 0⟩ ::
   []
def Tryd.fn31_r5b : List DIns :=
   ⟨⟨(some 40), .ia 2 (.t 38) (.t 39), .none⟩, [10, 11], [13, 14, 15, 16, 17, 18, 19], 0⟩ ::
   ⟨⟨(some 41), .fa 0 (.t 40), .none⟩, [12, 10, 11], [14, 15, 16, 17, 18, 19], 0⟩ ::
   ⟨⟨(some 42), .ld1 (.t 41), .none⟩, [13, 12, 10, 11], [15, 16, 17, 18, 19], 1⟩ ::
   ⟨⟨(some 43), .ia 7 (.t 37) (.t 42), .none⟩, [9, 14, 13, 12, 10, 11], [16, 17, 18, 19], 0⟩ ::
   ⟨⟨(some 44), .fa 1 (.t 43), .none⟩, [15, 9, 14, 13, 12, 10, 11], [17, 18, 19], 0⟩ ::
   ⟨⟨(some 45), .ld1 (.t 44), .none⟩, [16, 15, 9, 14, 13, 12, 10, 11], [18, 19], 1⟩ ::
   Tryd.fn31_r5c
def Tryd.fn31_r5a : List DIns :=
   ⟨⟨(some 34), .ia 7 (.t 28) (.t 33), .none⟩, [0, 5, 4, 3, 1, 2], [7, 8, 18, 19], 0⟩ ::
   ⟨⟨(some 35), .fa 1 (.t 34), .none⟩, [6, 0, 5, 4, 3, 1, 2], [8, 18, 19], 0⟩ ::
   ⟨⟨(some 36), .ld1 (.t 35), .none⟩, [7, 6, 0, 5, 4, 3, 1, 2], [18, 19], 1⟩ ::
   ⟨⟨(some 37), .mov (.t 0), .none⟩, [], [15, 16, 17, 18, 19], 0⟩ ::
   ⟨⟨(some 38), .mov (.t 2), .none⟩, [], [12, 13, 14, 15, 16, 17, 18, 19], 0⟩ ::
   ⟨⟨(some 39), .mov (.t 7), .none⟩, [], [12, 13, 14, 15, 16, 17, 18, 19], 0⟩ ::
   Tryd.fn31_r5b
def Tryd.fn31_r5 : List DIns :=
   ⟨⟨(some 28), .mov (.t 1), .none⟩, [], [6, 7, 8, 18, 19], 0⟩ ::
   ⟨⟨(some 29), .mov (.t 2), .none⟩, [], [3, 4, 5, 6, 7, 8, 18, 19], 0⟩ ::
   ⟨⟨(some 30), .mov (.t 7), .none⟩, [], [3, 4, 5, 6, 7, 8, 18, 19], 0⟩ ::
   ⟨⟨(some 31), .ia 2 (.t 29) (.t 30), .none⟩, [1, 2], [4, 5, 6, 7, 8, 18, 19], 0⟩ ::
   ⟨⟨(some 32), .fa 1 (.t 31), .none⟩, [3, 1, 2], [5, 6, 7, 8, 18, 19], 0⟩ ::
   ⟨⟨(some 33), .ld1 (.t 32), .none⟩, [4, 3, 1, 2], [6, 7, 8, 18, 19], 1⟩ ::
   Tryd.fn31_r5a
def Tryd.fn31_r6 : List AIns :=
   [⟨(some 12), .mov (.t 7), .none⟩,
      ⟨(some 13), .bin .add (.t 12) (.c (.int .i64 1)), .none⟩,
      ⟨(some 7), .mov (.t 13), .none⟩]
def Tryd.fn31_r7 : List AIns :=
   [⟨(some 6), .mov (.c (.int .i64 0)), .none⟩]
def Tryd.fn31_l0 : ACode :=
 (.seq (.seq (.seq (.reg Tryd.fn31_r2)
      (.trim [0, 1, 2, 7, 11]))
     (.cond (.t 11)
      .skip
      (.exit 0)))
    (.seq (.block 1
      (.seq (.seq (.seq (.reg Tryd.fn31_r3)
        (.trim [0, 1, 2, 7, 20, 23]))
       (.seq (.reg Tryd.fn31_r4)
       (.trim [0, 1, 2, 7, 27])))
      (.cond (.t 27)
       (.seq (.seq (.regd Tryd.fn31_r5)
        (.trim [6]))
       .ret)
       .skip)))
    (.seq (.reg Tryd.fn31_r6)
    (.trim [0, 1, 2, 7]))))
def Tryd.fn31 : AFun :=
 ⟨47, [.tmp 6],
 (.seq (.seq (.reg Tryd.fn31_r0)
  (.trim [0, 1, 2]))
 (.seq (.seq (.seq (.reg Tryd.fn31_r1)
   (.trim [0, 1, 2, 7]))
  (.block 0
   (.loop (some [0, 1, 2, 7])
    Tryd.fn31_l0)))
 (.seq (.seq (.reg Tryd.fn31_r7)
  (.trim [6]))
 .ret))), true⟩
/-! signalbench/align.fits -/
def Tryd.fn32_r0 : List AIns :=
   [⟨(some 4), .mov (.c (.bool false)), .none⟩]
def Tryd.fn32_r1 : List AIns :=
   [⟨(some 5), .mov (.t 0), .none⟩,
    ⟨(some 6), .lenl (.t 5), .none⟩,
    ⟨(some 7), .bin .leq (.t 6) (.c (.int .i64 512)), .none⟩,
    ⟨(some 8), .mov (.t 7), .none⟩,
    ⟨(some 9), .mov (.t 1), (some (8, true))⟩,
    ⟨(some 10), .lenl (.t 9), (some (8, true))⟩,
    ⟨(some 11), .bin .leq (.t 10) (.c (.int .i64 512)), (some (8, true))⟩,
    ⟨(some 12), .pick (.t 8) (.t 11) (.c (.bool false)), .none⟩,
    ⟨(some 4), .mov (.t 12), .none⟩]
def Tryd.fn32 : AFun :=
 ⟨13, [.tmp 4],
 (.seq (.seq (.reg Tryd.fn32_r0)
  (.trim [0, 1]))
 (.seq (.seq (.reg Tryd.fn32_r1)
  (.trim [4]))
 .ret)), true⟩
/-! slices.Clone[[]signalbench/api.Event,signalbench/api.Event] -/
def Tryd.fn33_r0 : List AIns :=
   [⟨(some 2), .mov (.c .nils), .none⟩]
def Tryd.fn33_r1 : List AIns :=
   [⟨(some 3), .mov (.t 0), .none⟩,
     ⟨(some 4), .eqv false true .slice (.t 3) (.c .nils), .none⟩]
def Tryd.fn33_r2 : List AIns :=
   [⟨(some 2), .mov (.c .nils), .none⟩]
def Tryd.fn33_r3 : List AIns :=
   [⟨(some 5), .bsl 23 7 0 [(.int .i64 0), (.int .i64 0), (.int .i64 0), (.int .i64 0), (.int .i64 0), (.str []), (.int .i64 0)] [], .none⟩,
    ⟨(some 6), .mov (.t 0), .none⟩,
    ⟨(some 7), .app 23 7 64 (.t 5) (.t 6), .none⟩,
    ⟨(some 2), .mov (.t 7), .none⟩]
def Tryd.fn33 : AFun :=
 ⟨8, [.tmp 2],
 (.seq (.seq (.reg Tryd.fn33_r0)
  (.trim [0]))
 (.seq (.seq (.seq (.reg Tryd.fn33_r1)
   (.trim [0, 4]))
  (.cond (.t 4)
   (.seq (.seq (.reg Tryd.fn33_r2)
    (.trim [2]))
   .ret)
   .skip))
 (.seq (.seq (.reg Tryd.fn33_r3)
  (.trim [2]))
 .ret))), true⟩
/-! signalbench/event.kinds -/
def Tryd.fn34_r0 : List AIns :=
   [⟨(some 0), .mov (.c .nils), .none⟩]
def Tryd.fn34_r1 : List AIns :=
   [⟨(some 1), .bsl 9 1 8 [(.str [])] [(0, 1, (.c (.str [108, 101, 118, 101, 108]))), (1, 1, (.c (.str [98, 105, 116]))), (2, 1, (.c (.str [98, 121, 116, 101]))), (3, 1, (.c (.str [109, 97, 114, 107]))), (4, 1, (.c (.str [102, 114, 97, 109, 101]))), (5, 1, (.c (.str [112, 97, 99, 107, 101, 116]))), (6, 1, (.c (.str [99, 111, 109, 109, 97, 110, 100]))), (7, 1, (.c (.str [112, 97, 105, 114])))], .none⟩,
    ⟨(some 0), .mov (.t 1), .none⟩]
def Tryd.fn34 : AFun :=
 ⟨2, [.tmp 0],
 (.seq (.seq (.reg Tryd.fn34_r0)
  (.trim []))
 (.seq (.seq (.reg Tryd.fn34_r1)
  (.trim [0]))
 .ret)), true⟩
/-! signalbench/lex.Quote -/
def Tryd.fn37_r0 : List AIns :=
   [⟨(some 2), .mov (.c (.str [])), .none⟩]
def Tryd.fn37_r1 : List AIns :=
   [⟨(some 3), .alloc 72 [.nilp, .nils], .none⟩]
def Tryd.fn37_r2 : List AIns :=
   [⟨(some 6), .call 47 [(.t 3), (.c (.int .u8 34))], .none⟩]
def Tryd.fn37_r3 : List AIns :=
   [⟨(some 7), .mov (.t 0), .none⟩,
     ⟨(some 8), .lens (.t 7), .none⟩,
     ⟨(some 9), .mov (.c (.int .i64 0)), .none⟩]
def Tryd.fn37_r4 : List AIns :=
   [⟨(some 10), .bin .lss (.t 9) (.t 8), .none⟩]
def Tryd.fn37_r5 : List AIns :=
   [⟨(some 11), .mov (.t 9), .none⟩,
         ⟨(some 4), .mov (.t 11), .none⟩]
def Tryd.fn37_r6 : List AIns :=
   [⟨(some 12), .mov (.t 0), .none⟩,
         ⟨(some 13), .mov (.t 4), .none⟩,
         ⟨(some 14), .ids (.t 12) (.t 13), .none⟩,
         ⟨(some 5), .mov (.t 14), .none⟩]
def Tryd.fn37_r7 : List AIns :=
   [⟨(some 25), .mov (.t 5), .none⟩,
          ⟨(some 26), .conv .i32 (.t 25), .none⟩,
          ⟨(some 27), .call 48 [(.t 26)], .none⟩,
          ⟨(some 24), .mov (.t 27), .none⟩]
def Tryd.fn37_r8 : List AIns :=
   [⟨(some 28), .mov (.t 5), .none⟩,
          ⟨(some 29), .call 47 [(.t 3), (.t 28)], .none⟩]
def Tryd.fn37_r9 : List AIns :=
   [⟨(some 31), .mov (.t 5), .none⟩,
           ⟨(some 32), .bin .eql (.t 31) (.c (.int .u8 34)), .none⟩,
           ⟨(some 33), .mov (.t 32), .none⟩,
           ⟨(some 34), .mov (.t 5), (some (33, false))⟩,
           ⟨(some 35), .bin .eql (.t 34) (.c (.int .u8 92)), (some (33, false))⟩,
           ⟨(some 36), .pick (.t 33) (.c (.bool true)) (.t 35), .none⟩,
           ⟨(some 30), .mov (.t 36), .none⟩]
def Tryd.fn37_r10 : List AIns :=
   [⟨(some 37), .call 47 [(.t 3), (.c (.int .u8 92))], .none⟩]
def Tryd.fn37_r11 : List AIns :=
   [⟨(some 38), .mov (.t 5), .none⟩,
           ⟨(some 39), .call 47 [(.t 3), (.t 38)], .none⟩]
def Tryd.fn37_r12 : List AIns :=
   [⟨(some 41), .mov (.t 5), .none⟩,
            ⟨(some 42), .bin .eql (.t 41) (.c (.int .u8 10)), .none⟩,
            ⟨(some 40), .mov (.t 42), .none⟩]
def Tryd.fn37_r13 : List AIns :=
   [⟨(some 43), .call 45 [(.t 3), (.c (.str [92, 110]))], .none⟩]
def Tryd.fn37_r14 : List AIns :=
   [⟨(some 15), .call 45 [(.t 3), (.c (.str [92, 120]))], .none⟩]
def Tryd.fn37_r15 : List AIns :=
   [⟨(some 16), .mov (.t 5), .none⟩,
             ⟨(some 17), .bin .shr (.t 16) (.c (.int .u64 4)), .none⟩,
             ⟨(some 18), .ids (.c (.str [48, 49, 50, 51, 52, 53, 54, 55, 56, 57, 97, 98, 99, 100, 101, 102])) (.t 17), .none⟩,
             ⟨(some 19), .call 47 [(.t 3), (.t 18)], .none⟩]
def Tryd.fn37_r16 : List AIns :=
   [⟨(some 20), .mov (.t 5), .none⟩,
            ⟨(some 21), .bin .and (.t 20) (.c (.int .u8 15)), .none⟩,
            ⟨(some 22), .ids (.c (.str [48, 49, 50, 51, 52, 53, 54, 55, 56, 57, 97, 98, 99, 100, 101, 102])) (.t 21), .none⟩,
            ⟨(some 23), .call 47 [(.t 3), (.t 22)], .none⟩]
def Tryd.fn37_r17 : List AIns :=
   [⟨(some 44), .bin .add (.t 9) (.c (.int .i64 1)), .none⟩,
      ⟨(some 9), .mov (.t 44), .none⟩]
def Tryd.fn37_r18 : List AIns :=
   [⟨(some 45), .call 47 [(.t 3), (.c (.int .u8 34))], .none⟩]
def Tryd.fn37_r19 : List AIns :=
   [⟨(some 46), .call 46 [(.t 3)], .none⟩,
    ⟨(some 2), .mov (.t 46), .none⟩]
def Tryd.fn37_l0 : ACode :=
 (.seq (.seq (.reg Tryd.fn37_r4)
     (.trim [0, 3, 8, 9, 10]))
    (.seq (.cond (.t 10)
      .skip
      (.exit 0))
    (.seq (.block 1
      (.seq (.seq (.reg Tryd.fn37_r5)
       (.trim [0, 3, 4, 8, 9]))
      (.seq (.seq (.reg Tryd.fn37_r6)
       (.trim [0, 3, 5, 8, 9]))
      (.block 2
       (.seq (.seq (.reg Tryd.fn37_r7)
        (.trim [0, 3, 5, 8, 9, 24]))
       (.cond (.t 24)
        (.seq (.reg Tryd.fn37_r8)
        (.trim [0, 3, 8, 9]))
        (.seq (.seq (.reg Tryd.fn37_r9)
         (.trim [0, 3, 5, 8, 9, 30]))
        (.cond (.t 30)
         (.seq (.seq (.reg Tryd.fn37_r10)
          (.trim [0, 3, 5, 8, 9]))
         (.seq (.reg Tryd.fn37_r11)
         (.trim [0, 3, 8, 9])))
         (.seq (.seq (.reg Tryd.fn37_r12)
          (.trim [0, 3, 5, 8, 9, 40]))
         (.cond (.t 40)
          (.seq (.reg Tryd.fn37_r13)
          (.trim [0, 3, 8, 9]))
          (.seq (.seq (.reg Tryd.fn37_r14)
           (.trim [0, 3, 5, 8, 9]))
          (.seq (.seq (.reg Tryd.fn37_r15)
           (.trim [0, 3, 5, 8, 9]))
          (.seq (.reg Tryd.fn37_r16)
          (.trim [0, 3, 8, 9]))))))))))))))
    (.seq (.reg Tryd.fn37_r17)
    (.trim [0, 3, 8, 9])))))
def Tryd.fn37 : AFun :=
 ⟨47, [.tmp 2],
 (.seq (.seq (.reg Tryd.fn37_r0)
  (.trim [0]))
 (.seq (.seq (.reg Tryd.fn37_r1)
  (.trim [0, 3]))
 (.seq (.seq (.reg Tryd.fn37_r2)
  (.trim [0, 3]))
 (.seq (.seq (.seq (.reg Tryd.fn37_r3)
   (.trim [0, 3, 8, 9]))
  (.block 0
   (.loop (some [0, 3, 8, 9])
    Tryd.fn37_l0)))
 (.seq (.seq (.reg Tryd.fn37_r18)
  (.trim [3]))
 (.seq (.seq (.reg Tryd.fn37_r19)
  (.trim [2]))
 .ret)))))), true⟩
/-! signalbench/signalbenchref07.names -/
def Tryd.fn38_r0 : List AIns :=
   [⟨(some 0), .mov (.c .nils), .none⟩]
def Tryd.fn38_r1 : List AIns :=
   [⟨(some 1), .bsl 9 1 8 [(.str [])] [(0, 1, (.c (.str [108, 101, 118, 101, 108]))), (1, 1, (.c (.str [98, 105, 116]))), (2, 1, (.c (.str [98, 121, 116, 101]))), (3, 1, (.c (.str [109, 97, 114, 107]))), (4, 1, (.c (.str [102, 114, 97, 109, 101]))), (5, 1, (.c (.str [112, 97, 99, 107, 101, 116]))), (6, 1, (.c (.str [99, 111, 109, 109, 97, 110, 100]))), (7, 1, (.c (.str [112, 97, 105, 114])))], .none⟩,
    ⟨(some 0), .mov (.t 1), .none⟩]
def Tryd.fn38 : AFun :=
 ⟨2, [.tmp 0],
 (.seq (.seq (.reg Tryd.fn38_r0)
  (.trim []))
 (.seq (.seq (.reg Tryd.fn38_r1)
  (.trim [0]))
 .ret)), true⟩
/-! signalbench/signalbenchref07.decimal -/
def Tryd.fn39_r0 : List AIns :=
   [⟨(some 2), .mov (.c (.str [])), .none⟩]
def Tryd.fn39_r1 : List AIns :=
   [⟨(some 3), .mov (.t 0), .none⟩,
     ⟨(some 4), .bin .lss (.t 3) (.c (.int .i64 0)), .none⟩]
def Tryd.fn39_r2 : List AIns :=
   [⟨(some 5), .mov (.t 0), .none⟩,
      ⟨(some 6), .un .neg (.t 5), .none⟩,
      ⟨(some 7), .call 49 [(.t 6)], .none⟩,
      ⟨(some 8), .bin .add (.c (.str [45])) (.t 7), .none⟩,
      ⟨(some 2), .mov (.t 8), .none⟩]
def Tryd.fn39_r3 : List AIns :=
   [⟨(some 9), .mov (.t 0), .none⟩,
    ⟨(some 10), .call 49 [(.t 9)], .none⟩,
    ⟨(some 2), .mov (.t 10), .none⟩]
def Tryd.fn39 : AFun :=
 ⟨11, [.tmp 2],
 (.seq (.seq (.reg Tryd.fn39_r0)
  (.trim [0]))
 (.seq (.seq (.seq (.reg Tryd.fn39_r1)
   (.trim [0, 4]))
  (.cond (.t 4)
   (.seq (.seq (.reg Tryd.fn39_r2)
    (.trim [2]))
   .ret)
   .skip))
 (.seq (.seq (.reg Tryd.fn39_r3)
  (.trim [2]))
 .ret))), true⟩
/-! signalbench/signalbenchref05.Quote -/
def Tryd.fn40_r0 : List AIns :=
   [⟨(some 2), .mov (.c (.str [])), .none⟩]
def Tryd.fn40_r1 : List AIns :=
   [⟨(some 3), .mov (.c (.str [48, 49, 50, 51, 52, 53, 54, 55, 56, 57, 97, 98, 99, 100, 101, 102])), .none⟩]
def Tryd.fn40_r2 : List AIns :=
   [⟨(some 7), .bsl 5 1 1 [(.int .u8 0)] [(0, 1, (.c (.int .u8 34)))], .none⟩,
    ⟨(some 4), .mov (.t 7), .none⟩]
def Tryd.fn40_r3 : List AIns :=
   [⟨(some 5), .mov (.c (.int .i64 0)), .none⟩]
def Tryd.fn40_r4 : List AIns :=
   [⟨(some 8), .mov (.t 5), .none⟩,
        ⟨(some 9), .mov (.t 0), .none⟩,
        ⟨(some 10), .lens (.t 9), .none⟩,
        ⟨(some 11), .bin .lss (.t 8) (.t 10), .none⟩]
def Tryd.fn40_r5 : List AIns :=
   [⟨(some 14), .mov (.t 0), .none⟩,
         ⟨(some 15), .mov (.t 5), .none⟩,
         ⟨(some 16), .ids (.t 14) (.t 15), .none⟩,
         ⟨(some 6), .mov (.t 16), .none⟩]
def Tryd.fn40_r6 : List AIns :=
   [⟨(some 17), .mov (.t 6), .none⟩,
         ⟨(some 18), .bin .eql (.t 17) (.c (.int .u8 34)), .none⟩,
         ⟨(some 19), .mov (.t 18), .none⟩,
         ⟨(some 20), .mov (.t 6), (some (19, false))⟩,
         ⟨(some 21), .bin .eql (.t 20) (.c (.int .u8 92)), (some (19, false))⟩,
         ⟨(some 22), .pick (.t 19) (.c (.bool true)) (.t 21), .none⟩]
def Tryd.fn40_r7 : List AIns :=
   [⟨(some 23), .mov (.t 4), .none⟩,
         ⟨(some 24), .mov (.t 6), .none⟩,
         ⟨(some 25), .bsl 5 1 2 [(.int .u8 0)] [(0, 1, (.c (.int .u8 92))), (1, 1, (.t 24))], .none⟩,
         ⟨(some 26), .app 5 1 1 (.t 23) (.t 25), .none⟩,
         ⟨(some 4), .mov (.t 26), .none⟩]
def Tryd.fn40_r8 : List AIns :=
   [⟨(some 27), .mov (.t 6), .none⟩,
          ⟨(some 28), .bin .eql (.t 27) (.c (.int .u8 10)), .none⟩]
def Tryd.fn40_r9 : List AIns :=
   [⟨(some 29), .mov (.t 4), .none⟩,
          ⟨(some 30), .bsl 5 1 2 [(.int .u8 0)] [(0, 1, (.c (.int .u8 92))), (1, 1, (.c (.int .u8 110)))], .none⟩,
          ⟨(some 31), .app 5 1 1 (.t 29) (.t 30), .none⟩,
          ⟨(some 4), .mov (.t 31), .none⟩]
def Tryd.fn40_r10 : List AIns :=
   [⟨(some 32), .mov (.t 6), .none⟩,
           ⟨(some 33), .bin .lss (.t 32) (.c (.int .u8 32)), .none⟩,
           ⟨(some 34), .mov (.t 33), .none⟩,
           ⟨(some 35), .mov (.t 6), (some (34, false))⟩,
           ⟨(some 36), .bin .gtr (.t 35) (.c (.int .u8 126)), (some (34, false))⟩,
           ⟨(some 37), .pick (.t 34) (.c (.bool true)) (.t 36), .none⟩]
def Tryd.fn40_r11a : List DIns :=
   ⟨⟨(some 44), .mov (.t 6), .none⟩, [], [7, 8, 9, 10, 11], 0⟩ ::
   ⟨⟨(some 45), .bin .rem (.t 44) (.c (.int .u8 16)), .none⟩, [6], [8, 9, 10, 11], 0⟩ ::
   ⟨⟨(some 46), .ids (.t 43) (.t 45), .none⟩, [5, 7, 6], [9, 10, 11], 0⟩ ::
   ⟨⟨(some 47), .bsl 5 1 4 [(.int .u8 0)] [(0, 1, (.c (.int .u8 92))), (1, 1, (.c (.int .u8 120))), (2, 1, (.t 42)), (3, 1, (.t 46))], .none⟩, [4, 8, 1, 3, 2, 5, 7, 6], [10, 11], 2⟩ ::
   ⟨⟨(some 48), .app 5 1 1 (.t 38) (.t 47), .none⟩, [0, 9, 4, 8, 1, 3, 2, 5, 7, 6], [11], 2⟩ ::
   ⟨⟨(some 4), .mov (.t 48), .none⟩, [10, 0, 1, 2, 3, 4, 5, 6, 7, 8, 9], [], 0⟩ ::
   []
def Tryd.fn40_r11 : List DIns :=
   ⟨⟨(some 38), .mov (.t 4), .none⟩, [], [10, 11], 0⟩ ::
   ⟨⟨(some 39), .mov (.t 3), .none⟩, [], [4, 9, 10, 11], 0⟩ ::
   ⟨⟨(some 40), .mov (.t 6), .none⟩, [], [3, 4, 9, 10, 11], 0⟩ ::
   ⟨⟨(some 41), .bin .quo (.t 40) (.c (.int .u8 16)), .none⟩, [2], [4, 9, 10, 11], 0⟩ ::
   ⟨⟨(some 42), .ids (.t 39) (.t 41), .none⟩, [1, 3, 2], [9, 10, 11], 0⟩ ::
   ⟨⟨(some 43), .mov (.t 3), .none⟩, [], [8, 9, 10, 11], 0⟩ ::
   Tryd.fn40_r11a
def Tryd.fn40_r12 : List AIns :=
   [⟨(some 49), .mov (.t 4), .none⟩,
           ⟨(some 50), .mov (.t 6), .none⟩,
           ⟨(some 51), .bsl 5 1 1 [(.int .u8 0)] [(0, 1, (.t 50))], .none⟩,
           ⟨(some 52), .app 5 1 1 (.t 49) (.t 51), .none⟩,
           ⟨(some 4), .mov (.t 52), .none⟩]
def Tryd.fn40_r13 : List AIns :=
   [⟨(some 12), .mov (.t 5), .none⟩,
      ⟨(some 13), .bin .add (.t 12) (.c (.int .i64 1)), .none⟩,
      ⟨(some 5), .mov (.t 13), .none⟩]
def Tryd.fn40_r14 : List AIns :=
   [⟨(some 53), .mov (.t 4), .none⟩,
    ⟨(some 54), .bsl 5 1 1 [(.int .u8 0)] [(0, 1, (.c (.int .u8 34)))], .none⟩,
    ⟨(some 55), .app 5 1 1 (.t 53) (.t 54), .none⟩,
    ⟨(some 56), .b2s (.t 55), .none⟩,
    ⟨(some 2), .mov (.t 56), .none⟩]
def Tryd.fn40_l0 : ACode :=
 (.seq (.seq (.seq (.reg Tryd.fn40_r4)
      (.trim [0, 3, 4, 5, 11]))
     (.cond (.t 11)
      .skip
      (.exit 0)))
    (.seq (.block 1
      (.seq (.seq (.reg Tryd.fn40_r5)
       (.trim [0, 3, 4, 5, 6]))
      (.seq (.seq (.reg Tryd.fn40_r6)
       (.trim [0, 3, 4, 5, 6, 22]))
      (.cond (.t 22)
       (.seq (.reg Tryd.fn40_r7)
       (.trim [0, 3, 4, 5]))
       (.seq (.seq (.reg Tryd.fn40_r8)
        (.trim [0, 3, 4, 5, 6, 28]))
       (.cond (.t 28)
        (.seq (.reg Tryd.fn40_r9)
        (.trim [0, 3, 4, 5]))
        (.seq (.seq (.reg Tryd.fn40_r10)
         (.trim [0, 3, 4, 5, 6, 37]))
        (.cond (.t 37)
         (.seq (.regd Tryd.fn40_r11)
         (.trim [0, 3, 4, 5]))
         (.seq (.reg Tryd.fn40_r12)
         (.trim [0, 3, 4, 5]))))))))))
    (.seq (.reg Tryd.fn40_r13)
    (.trim [0, 3, 4, 5]))))
def Tryd.fn40 : AFun :=
 ⟨57, [.tmp 2],
 (.seq (.seq (.reg Tryd.fn40_r0)
  (.trim [0]))
 (.seq (.seq (.reg Tryd.fn40_r1)
  (.trim [0, 3]))
 (.seq (.seq (.reg Tryd.fn40_r2)
  (.trim [0, 3, 4]))
 (.seq (.seq (.seq (.reg Tryd.fn40_r3)
   (.trim [0, 3, 4, 5]))
  (.block 0
   (.loop (some [0, 3, 4, 5])
    Tryd.fn40_l0)))
 (.seq (.seq (.reg Tryd.fn40_r14)
  (.trim [2]))
 .ret))))), true⟩
/-! signalbench/align.rests -/
def Tryd.fn41_r0 : List AIns :=
   [⟨(some 4), .mov (.c .nils), .none⟩]
def Tryd.fn41_r1 : List AIns :=
   [⟨(some 8), .mov (.t 0), .none⟩,
    ⟨(some 9), .lenl (.t 8), .none⟩,
    ⟨(some 10), .bin .add (.t 9) (.c (.int .i64 1)), .none⟩,
    ⟨(some 11), .mks 63 1 24 [.nils] (.t 10) (.t 10), .none⟩,
    ⟨(some 5), .mov (.t 11), .none⟩]
def Tryd.fn41_r2 : List AIns :=
   [⟨(some 12), .mov (.t 0), .none⟩,
     ⟨(some 13), .lenl (.t 12), .none⟩,
     ⟨(some 6), .mov (.t 13), .none⟩]
def Tryd.fn41_r3 : List AIns :=
   [⟨(some 14), .mov (.t 6), .none⟩,
        ⟨(some 15), .bin .geq (.t 14) (.c (.int .i64 0)), .none⟩]
def Tryd.fn41_r4 : List AIns :=
   [⟨(some 18), .mov (.t 5), .none⟩,
         ⟨(some 19), .mov (.t 6), .none⟩,
         ⟨(some 20), .mov (.t 1), .none⟩,
         ⟨(some 21), .lenl (.t 20), .none⟩,
         ⟨(some 22), .bin .add (.t 21) (.c (.int .i64 1)), .none⟩,
         ⟨(some 23), .mks 3 1 8 [(.int .i64 0)] (.t 22) (.t 22), .none⟩,
         ⟨(some 24), .ia 1 (.t 18) (.t 19), .none⟩,
         ⟨.none, .st 1 (.t 24) (.t 23), .none⟩]
def Tryd.fn41_r5 : List AIns :=
   [⟨(some 25), .mov (.t 1), .none⟩,
         ⟨(some 26), .lenl (.t 25), .none⟩,
         ⟨(some 7), .mov (.t 26), .none⟩]
def Tryd.fn41_r6 : List AIns :=
   [⟨(some 27), .mov (.t 7), .none⟩,
            ⟨(some 28), .bin .geq (.t 27) (.c (.int .i64 0)), .none⟩]
def Tryd.fn41_r7 : List AIns :=
   [⟨(some 56), .mov (.t 6), .none⟩,
              ⟨(some 57), .mov (.t 0), .none⟩,
              ⟨(some 58), .lenl (.t 57), .none⟩,
              ⟨(some 59), .bin .eql (.t 56) (.t 58), .none⟩,
              ⟨(some 55), .mov (.t 59), .none⟩]
def Tryd.fn41_r8 : List AIns :=
   [⟨(some 60), .mov (.t 5), .none⟩,
               ⟨(some 61), .mov (.t 6), .none⟩,
               ⟨(some 62), .ia 1 (.t 60) (.t 61), .none⟩,
               ⟨(some 63), .ld1 (.t 62), .none⟩,
               ⟨(some 64), .mov (.t 7), .none⟩,
               ⟨(some 65), .mov (.t 1), .none⟩,
               ⟨(some 66), .lenl (.t 65), .none⟩,
               ⟨(some 67), .mov (.t 7), .none⟩,
               ⟨(some 68), .bin .sub (.t 66) (.t 67), .none⟩,
               ⟨(some 69), .ia 1 (.t 63) (.t 64), .none⟩]
def Tryd.fn41_r9 : List AIns :=
   [⟨.none, .st 1 (.t 69) (.t 68), .none⟩]
def Tryd.fn41_r10 : List AIns :=
   [⟨(some 71), .mov (.t 7), .none⟩,
               ⟨(some 72), .mov (.t 1), .none⟩,
               ⟨(some 73), .lenl (.t 72), .none⟩,
               ⟨(some 74), .bin .eql (.t 71) (.t 73), .none⟩,
               ⟨(some 70), .mov (.t 74), .none⟩]
def Tryd.fn41_r11 : List AIns :=
   [⟨(some 75), .mov (.t 5), .none⟩,
                ⟨(some 76), .mov (.t 6), .none⟩,
                ⟨(some 77), .ia 1 (.t 75) (.t 76), .none⟩,
                ⟨(some 78), .ld1 (.t 77), .none⟩,
                ⟨(some 79), .mov (.t 7), .none⟩,
                ⟨(some 80), .mov (.t 0), .none⟩,
                ⟨(some 81), .lenl (.t 80), .none⟩,
                ⟨(some 82), .mov (.t 6), .none⟩,
                ⟨(some 83), .bin .sub (.t 81) (.t 82), .none⟩,
                ⟨(some 84), .ia 1 (.t 78) (.t 79), .none⟩]
def Tryd.fn41_r12 : List AIns :=
   [⟨.none, .st 1 (.t 84) (.t 83), .none⟩]
def Tryd.fn41_r13a : List DIns :=
   ⟨⟨(some 92), .ia 1 (.t 90) (.t 91), .none⟩, [4, 5], [7, 8, 9], 0⟩ ::
   ⟨⟨(some 93), .ld1 (.t 92), .none⟩, [6, 4, 5], [8, 9], 1⟩ ::
   ⟨⟨(some 94), .bin .eql (.t 89) (.t 93), .none⟩, [3, 7, 2, 0, 1, 6, 4, 5], [9], 0⟩ ::
   ⟨⟨(some 85), .mov (.t 94), .none⟩, [8, 3, 7, 2, 0, 1, 6, 4, 5], [], 0⟩ ::
   []
def Tryd.fn41_r13 : List DIns :=
   ⟨⟨(some 86), .mov (.t 0), .none⟩, [], [2, 3, 8, 9], 0⟩ ::
   ⟨⟨(some 87), .mov (.t 6), .none⟩, [], [2, 3, 8, 9], 0⟩ ::
   ⟨⟨(some 88), .ia 1 (.t 86) (.t 87), .none⟩, [0, 1], [3, 8, 9], 0⟩ ::
   ⟨⟨(some 89), .ld1 (.t 88), .none⟩, [2, 0, 1], [8, 9], 1⟩ ::
   ⟨⟨(some 90), .mov (.t 1), .none⟩, [], [6, 7, 8, 9], 0⟩ ::
   ⟨⟨(some 91), .mov (.t 7), .none⟩, [], [6, 7, 8, 9], 0⟩ ::
   Tryd.fn41_r13a
def Tryd.fn41_r14b : List DIns :=
   ⟨⟨(some 107), .ia 1 (.t 104) (.t 106), .none⟩, [9, 11, 8, 5, 7, 6, 10], [13, 14, 15], 0⟩ ::
   ⟨⟨(some 108), .ld1 (.t 107), .none⟩, [12, 9, 11, 8, 5, 7, 6, 10], [14, 15], 1⟩ ::
   ⟨⟨(some 109), .ia 1 (.t 98) (.t 99), .none⟩, [3, 4, 0, 1, 2, 5, 6, 7, 8, 9, 10, 11, 12, 13], [15], 0⟩ ::
   ⟨⟨.none, .st 1 (.t 109) (.t 108), .none⟩, [14, 13, 0, 1, 2, 3, 4, 5, 6, 7, 8, 9, 10, 11, 12], [], 2⟩ ::
   []
def Tryd.fn41_r14a : List DIns :=
   ⟨⟨(some 101), .mov (.t 6), .none⟩, [], [7, 8, 9, 12, 13, 14, 15], 0⟩ ::
   ⟨⟨(some 102), .bin .add (.t 101) (.c (.int .i64 1)), .none⟩, [6], [8, 9, 12, 13, 14, 15], 0⟩ ::
   ⟨⟨(some 103), .ia 1 (.t 100) (.t 102), .none⟩, [5, 7, 6], [9, 12, 13, 14, 15], 0⟩ ::
   ⟨⟨(some 104), .ld1 (.t 103), .none⟩, [8, 5, 7, 6], [12, 13, 14, 15], 1⟩ ::
   ⟨⟨(some 105), .mov (.t 7), .none⟩, [], [11, 12, 13, 14, 15], 0⟩ ::
   ⟨⟨(some 106), .bin .add (.t 105) (.c (.int .i64 1)), .none⟩, [10], [12, 13, 14, 15], 0⟩ ::
   Tryd.fn41_r14b
def Tryd.fn41_r14 : List DIns :=
   ⟨⟨(some 95), .mov (.t 5), .none⟩, [], [2, 3, 14, 15], 0⟩ ::
   ⟨⟨(some 96), .mov (.t 6), .none⟩, [], [2, 3, 14, 15], 0⟩ ::
   ⟨⟨(some 97), .ia 1 (.t 95) (.t 96), .none⟩, [0, 1], [3, 14, 15], 0⟩ ::
   ⟨⟨(some 98), .ld1 (.t 97), .none⟩, [2, 0, 1], [14, 15], 1⟩ ::
   ⟨⟨(some 99), .mov (.t 7), .none⟩, [], [14, 15], 0⟩ ::
   ⟨⟨(some 100), .mov (.t 5), .none⟩, [], [8, 9, 12, 13, 14, 15], 0⟩ ::
   Tryd.fn41_r14a
def Tryd.fn41_r15d : List DIns :=
   ⟨⟨.none, .st 1 (.t 54) (.t 53), .none⟩, [23, 22, 0, 1, 2, 3, 4, 5, 6, 7, 8, 9, 10, 11, 12, 13, 14, 15, 16, 17, 18, 19, 20, 21], [], 2⟩ ::
   []
def Tryd.fn41_r15c : List DIns :=
   ⟨⟨(some 49), .bin .add (.t 48) (.c (.int .i64 1)), .none⟩, [17], [19, 20, 21, 22, 23, 24], 0⟩ ::
   ⟨⟨(some 50), .ia 1 (.t 47) (.t 49), .none⟩, [16, 18, 15, 13, 14, 17], [20, 21, 22, 23, 24], 0⟩ ::
   ⟨⟨(some 51), .ld1 (.t 50), .none⟩, [19, 16, 18, 15, 13, 14, 17], [21, 22, 23, 24], 1⟩ ::
   ⟨⟨(some 52), .mn (.t 43) (.t 51), .none⟩, [12, 20, 11, 9, 10, 8, 5, 7, 6, 19, 16, 18, 15, 13, 14, 17], [22, 23, 24], 0⟩ ::
   ⟨⟨(some 53), .bin .add (.c (.int .i64 1)) (.t 52), .none⟩, [21, 12, 20, 11, 9, 10, 8, 5, 7, 6, 19, 16, 18, 15, 13, 14, 17], [23, 24], 0⟩ ::
   ⟨⟨(some 54), .ia 1 (.t 34) (.t 35), .none⟩, [3, 4, 0, 1, 2, 5, 6, 7, 8, 9, 10, 11, 12, 13, 14, 15, 16, 17, 18, 19, 20, 21, 22], [24], 0⟩ ::
   Tryd.fn41_r15d
def Tryd.fn41_r15b : List DIns :=
   ⟨⟨(some 43), .ld1 (.t 42), .none⟩, [11, 9, 10, 8, 5, 7, 6], [21, 22, 23, 24], 1⟩ ::
   ⟨⟨(some 44), .mov (.t 5), .none⟩, [], [15, 16, 19, 20, 21, 22, 23, 24], 0⟩ ::
   ⟨⟨(some 45), .mov (.t 6), .none⟩, [], [15, 16, 19, 20, 21, 22, 23, 24], 0⟩ ::
   ⟨⟨(some 46), .ia 1 (.t 44) (.t 45), .none⟩, [13, 14], [16, 19, 20, 21, 22, 23, 24], 0⟩ ::
   ⟨⟨(some 47), .ld1 (.t 46), .none⟩, [15, 13, 14], [19, 20, 21, 22, 23, 24], 1⟩ ::
   ⟨⟨(some 48), .mov (.t 7), .none⟩, [], [18, 19, 20, 21, 22, 23, 24], 0⟩ ::
   Tryd.fn41_r15c
def Tryd.fn41_r15a : List DIns :=
   ⟨⟨(some 37), .mov (.t 6), .none⟩, [], [7, 8, 9, 11, 12, 21, 22, 23, 24], 0⟩ ::
   ⟨⟨(some 38), .bin .add (.t 37) (.c (.int .i64 1)), .none⟩, [6], [8, 9, 11, 12, 21, 22, 23, 24], 0⟩ ::
   ⟨⟨(some 39), .ia 1 (.t 36) (.t 38), .none⟩, [5, 7, 6], [9, 11, 12, 21, 22, 23, 24], 0⟩ ::
   ⟨⟨(some 40), .ld1 (.t 39), .none⟩, [8, 5, 7, 6], [11, 12, 21, 22, 23, 24], 1⟩ ::
   ⟨⟨(some 41), .mov (.t 7), .none⟩, [], [11, 12, 21, 22, 23, 24], 0⟩ ::
   ⟨⟨(some 42), .ia 1 (.t 40) (.t 41), .none⟩, [9, 10, 8, 5, 7, 6], [12, 21, 22, 23, 24], 0⟩ ::
   Tryd.fn41_r15b
def Tryd.fn41_r15 : List DIns :=
   ⟨⟨(some 31), .mov (.t 5), .none⟩, [], [2, 3, 23, 24], 0⟩ ::
   ⟨⟨(some 32), .mov (.t 6), .none⟩, [], [2, 3, 23, 24], 0⟩ ::
   ⟨⟨(some 33), .ia 1 (.t 31) (.t 32), .none⟩, [0, 1], [3, 23, 24], 0⟩ ::
   ⟨⟨(some 34), .ld1 (.t 33), .none⟩, [2, 0, 1], [23, 24], 1⟩ ::
   ⟨⟨(some 35), .mov (.t 7), .none⟩, [], [23, 24], 0⟩ ::
   ⟨⟨(some 36), .mov (.t 5), .none⟩, [], [8, 9, 11, 12, 21, 22, 23, 24], 0⟩ ::
   Tryd.fn41_r15a
def Tryd.fn41_r16 : List AIns :=
   [⟨(some 29), .mov (.t 7), .none⟩,
          ⟨(some 30), .bin .sub (.t 29) (.c (.int .i64 1)), .none⟩,
          ⟨(some 7), .mov (.t 30), .none⟩]
def Tryd.fn41_r17 : List AIns :=
   [⟨(some 16), .mov (.t 6), .none⟩,
      ⟨(some 17), .bin .sub (.t 16) (.c (.int .i64 1)), .none⟩,
      ⟨(some 6), .mov (.t 17), .none⟩]
def Tryd.fn41_r18 : List AIns :=
   [⟨(some 110), .mov (.t 5), .none⟩,
    ⟨(some 4), .mov (.t 110), .none⟩]
def Tryd.fn41_l0 : ACode :=
 (.seq (.seq (.seq (.reg Tryd.fn41_r6)
          (.trim [0, 1, 5, 6, 7, 28]))
         (.cond (.t 28)
          .skip
          (.exit 2)))
        (.seq (.block 3
          (.block 4
           (.seq (.seq (.reg Tryd.fn41_r7)
            (.trim [0, 1, 5, 6, 7, 55]))
           (.cond (.t 55)
            (.seq (.seq (.reg Tryd.fn41_r8)
             (.trim [0, 1, 5, 6, 7, 68, 69]))
            (.seq (.reg Tryd.fn41_r9)
            (.trim [0, 1, 5, 6, 7])))
            (.seq (.seq (.reg Tryd.fn41_r10)
             (.trim [0, 1, 5, 6, 7, 70]))
            (.cond (.t 70)
             (.seq (.seq (.reg Tryd.fn41_r11)
              (.trim [0, 1, 5, 6, 7, 83, 84]))
             (.seq (.reg Tryd.fn41_r12)
             (.trim [0, 1, 5, 6, 7])))
             (.seq (.seq (.regd Tryd.fn41_r13)
              (.trim [0, 1, 5, 6, 7, 85]))
             (.cond (.t 85)
              (.seq (.regd Tryd.fn41_r14)
              (.trim [0, 1, 5, 6, 7]))
              (.seq (.regd Tryd.fn41_r15)
              (.trim [0, 1, 5, 6, 7]))))))))))
        (.seq (.reg Tryd.fn41_r16)
        (.trim [0, 1, 5, 6, 7]))))
def Tryd.fn41_l1 : ACode :=
 (.seq (.seq (.seq (.reg Tryd.fn41_r3)
      (.trim [0, 1, 5, 6, 15]))
     (.cond (.t 15)
      .skip
      (.exit 0)))
    (.seq (.block 1
      (.seq (.seq (.reg Tryd.fn41_r4)
       (.trim [0, 1, 5, 6]))
      (.seq (.seq (.reg Tryd.fn41_r5)
       (.trim [0, 1, 5, 6, 7]))
      (.block 2
       (.loop (some [0, 1, 5, 6, 7])
        Tryd.fn41_l0)))))
    (.seq (.reg Tryd.fn41_r17)
    (.trim [0, 1, 5, 6]))))
def Tryd.fn41 : AFun :=
 ⟨111, [.tmp 4],
 (.seq (.seq (.reg Tryd.fn41_r0)
  (.trim [0, 1]))
 (.seq (.seq (.reg Tryd.fn41_r1)
  (.trim [0, 1, 5]))
 (.seq (.seq (.seq (.reg Tryd.fn41_r2)
   (.trim [0, 1, 5, 6]))
  (.block 0
   (.loop (some [0, 1, 5, 6])
    Tryd.fn41_l1)))
 (.seq (.seq (.reg Tryd.fn41_r18)
  (.trim [4]))
 .ret)))), false⟩
/-! signalbench/signalbenchref54.costs -/
def Tryd.fn42_r0 : List AIns :=
   [⟨(some 4), .mov (.c .nils), .none⟩]
def Tryd.fn42_r1 : List AIns :=
   [⟨(some 9), .mov (.t 0), .none⟩,
    ⟨(some 10), .lenl (.t 9), .none⟩,
    ⟨(some 11), .bin .add (.t 10) (.c (.int .i64 1)), .none⟩,
    ⟨(some 12), .mks 63 1 24 [.nils] (.t 11) (.t 11), .none⟩,
    ⟨(some 5), .mov (.t 12), .none⟩]
def Tryd.fn42_r2 : List AIns :=
   [⟨(some 13), .mov (.t 0), .none⟩,
     ⟨(some 14), .lenl (.t 13), .none⟩,
     ⟨(some 6), .mov (.t 14), .none⟩]
def Tryd.fn42_r3 : List AIns :=
   [⟨(some 15), .mov (.t 6), .none⟩,
        ⟨(some 16), .bin .geq (.t 15) (.c (.int .i64 0)), .none⟩]
def Tryd.fn42_r4 : List AIns :=
   [⟨(some 19), .mov (.t 1), .none⟩,
         ⟨(some 20), .lenl (.t 19), .none⟩,
         ⟨(some 21), .bin .add (.t 20) (.c (.int .i64 1)), .none⟩,
         ⟨(some 22), .mks 3 1 8 [(.int .i64 0)] (.t 21) (.t 21), .none⟩,
         ⟨(some 7), .mov (.t 22), .none⟩]
def Tryd.fn42_r5 : List AIns :=
   [⟨(some 23), .mov (.t 1), .none⟩,
          ⟨(some 24), .lenl (.t 23), .none⟩,
          ⟨(some 8), .mov (.t 24), .none⟩]
def Tryd.fn42_r6 : List AIns :=
   [⟨(some 25), .mov (.t 8), .none⟩,
             ⟨(some 26), .bin .geq (.t 25) (.c (.int .i64 0)), .none⟩]
def Tryd.fn42_r7 : List AIns :=
   [⟨(some 29), .mov (.t 6), .none⟩,
              ⟨(some 30), .mov (.t 0), .none⟩,
              ⟨(some 31), .lenl (.t 30), .none⟩,
              ⟨(some 32), .bin .eql (.t 29) (.t 31), .none⟩]
def Tryd.fn42_r8 : List AIns :=
   [⟨(some 33), .mov (.t 7), .none⟩,
              ⟨(some 34), .mov (.t 8), .none⟩,
              ⟨(some 35), .mov (.t 1), .none⟩,
              ⟨(some 36), .lenl (.t 35), .none⟩,
              ⟨(some 37), .mov (.t 8), .none⟩,
              ⟨(some 38), .bin .sub (.t 36) (.t 37), .none⟩,
              ⟨(some 39), .ia 1 (.t 33) (.t 34), .none⟩,
              ⟨.none, .st 1 (.t 39) (.t 38), .none⟩]
def Tryd.fn42_r9 : List AIns :=
   [⟨(some 40), .mov (.t 8), .none⟩,
               ⟨(some 41), .mov (.t 1), .none⟩,
               ⟨(some 42), .lenl (.t 41), .none⟩,
               ⟨(some 43), .bin .eql (.t 40) (.t 42), .none⟩]
def Tryd.fn42_r10 : List AIns :=
   [⟨(some 44), .mov (.t 7), .none⟩,
               ⟨(some 45), .mov (.t 8), .none⟩,
               ⟨(some 46), .mov (.t 0), .none⟩,
               ⟨(some 47), .lenl (.t 46), .none⟩,
               ⟨(some 48), .mov (.t 6), .none⟩,
               ⟨(some 49), .bin .sub (.t 47) (.t 48), .none⟩,
               ⟨(some 50), .ia 1 (.t 44) (.t 45), .none⟩,
               ⟨.none, .st 1 (.t 50) (.t 49), .none⟩]
def Tryd.fn42_r11a : List DIns :=
   ⟨⟨(some 57), .ia 1 (.t 55) (.t 56), .none⟩, [4, 5], [7, 8], 0⟩ ::
   ⟨⟨(some 58), .ld1 (.t 57), .none⟩, [6, 4, 5], [8], 1⟩ ::
   ⟨⟨(some 59), .bin .eql (.t 54) (.t 58), .none⟩, [3, 7, 2, 0, 1, 6, 4, 5], [], 0⟩ ::
   []
def Tryd.fn42_r11 : List DIns :=
   ⟨⟨(some 51), .mov (.t 0), .none⟩, [], [2, 3, 8], 0⟩ ::
   ⟨⟨(some 52), .mov (.t 6), .none⟩, [], [2, 3, 8], 0⟩ ::
   ⟨⟨(some 53), .ia 1 (.t 51) (.t 52), .none⟩, [0, 1], [3, 8], 0⟩ ::
   ⟨⟨(some 54), .ld1 (.t 53), .none⟩, [2, 0, 1], [8], 1⟩ ::
   ⟨⟨(some 55), .mov (.t 1), .none⟩, [], [6, 7, 8], 0⟩ ::
   ⟨⟨(some 56), .mov (.t 8), .none⟩, [], [6, 7, 8], 0⟩ ::
   Tryd.fn42_r11a
def Tryd.fn42_r12 : List AIns :=
   [⟨(some 60), .mov (.t 7), .none⟩,
                 ⟨(some 61), .mov (.t 8), .none⟩,
                 ⟨(some 62), .mov (.t 5), .none⟩,
                 ⟨(some 63), .mov (.t 6), .none⟩,
                 ⟨(some 64), .bin .add (.t 63) (.c (.int .i64 1)), .none⟩,
                 ⟨(some 65), .ia 1 (.t 62) (.t 64), .none⟩,
                 ⟨(some 66), .ld1 (.t 65), .none⟩,
                 ⟨(some 67), .mov (.t 8), .none⟩,
                 ⟨(some 68), .bin .add (.t 67) (.c (.int .i64 1)), .none⟩,
                 ⟨(some 69), .ia 1 (.t 66) (.t 68), .none⟩]
def Tryd.fn42_r13 : List AIns :=
   [⟨(some 70), .ld1 (.t 69), .none⟩,
                ⟨(some 71), .ia 1 (.t 60) (.t 61), .none⟩,
                ⟨.none, .st 1 (.t 71) (.t 70), .none⟩]
def Tryd.fn42_r14b : List DIns :=
   ⟨⟨(some 84), .ld1 (.t 83), .none⟩, [11, 8, 10, 9], [13], 1⟩ ::
   ⟨⟨(some 85), .bin .leq (.t 79) (.t 84), .none⟩, [7, 12, 6, 4, 5, 3, 0, 2, 1, 11, 8, 10, 9], [], 0⟩ ::
   []
def Tryd.fn42_r14a : List DIns :=
   ⟨⟨(some 78), .ia 1 (.t 76) (.t 77), .none⟩, [4, 5, 3, 0, 2, 1], [7, 13], 0⟩ ::
   ⟨⟨(some 79), .ld1 (.t 78), .none⟩, [6, 4, 5, 3, 0, 2, 1], [13], 1⟩ ::
   ⟨⟨(some 80), .mov (.t 7), .none⟩, [], [11, 12, 13], 0⟩ ::
   ⟨⟨(some 81), .mov (.t 8), .none⟩, [], [10, 11, 12, 13], 0⟩ ::
   ⟨⟨(some 82), .bin .add (.t 81) (.c (.int .i64 1)), .none⟩, [9], [11, 12, 13], 0⟩ ::
   ⟨⟨(some 83), .ia 1 (.t 80) (.t 82), .none⟩, [8, 10, 9], [12, 13], 0⟩ ::
   Tryd.fn42_r14b
def Tryd.fn42_r14 : List DIns :=
   ⟨⟨(some 72), .mov (.t 5), .none⟩, [], [3, 4, 6, 7, 13], 0⟩ ::
   ⟨⟨(some 73), .mov (.t 6), .none⟩, [], [2, 3, 4, 6, 7, 13], 0⟩ ::
   ⟨⟨(some 74), .bin .add (.t 73) (.c (.int .i64 1)), .none⟩, [1], [3, 4, 6, 7, 13], 0⟩ ::
   ⟨⟨(some 75), .ia 1 (.t 72) (.t 74), .none⟩, [0, 2, 1], [4, 6, 7, 13], 0⟩ ::
   ⟨⟨(some 76), .ld1 (.t 75), .none⟩, [3, 0, 2, 1], [6, 7, 13], 1⟩ ::
   ⟨⟨(some 77), .mov (.t 8), .none⟩, [], [6, 7, 13], 0⟩ ::
   Tryd.fn42_r14a
def Tryd.fn42_r15 : List AIns :=
   [⟨(some 86), .mov (.t 7), .none⟩,
                  ⟨(some 87), .mov (.t 8), .none⟩,
                  ⟨(some 88), .mov (.t 5), .none⟩,
                  ⟨(some 89), .mov (.t 6), .none⟩,
                  ⟨(some 90), .bin .add (.t 89) (.c (.int .i64 1)), .none⟩,
                  ⟨(some 91), .ia 1 (.t 88) (.t 90), .none⟩,
                  ⟨(some 92), .ld1 (.t 91), .none⟩,
                  ⟨(some 93), .mov (.t 8), .none⟩,
                  ⟨(some 94), .ia 1 (.t 92) (.t 93), .none⟩,
                  ⟨(some 95), .ld1 (.t 94), .none⟩]
def Tryd.fn42_r16 : List AIns :=
   [⟨(some 96), .bin .add (.t 95) (.c (.int .i64 1)), .none⟩,
                 ⟨(some 97), .ia 1 (.t 86) (.t 87), .none⟩,
                 ⟨.none, .st 1 (.t 97) (.t 96), .none⟩]
def Tryd.fn42_r17 : List AIns :=
   [⟨(some 98), .mov (.t 7), .none⟩,
                 ⟨(some 99), .mov (.t 8), .none⟩,
                 ⟨(some 100), .mov (.t 7), .none⟩,
                 ⟨(some 101), .mov (.t 8), .none⟩,
                 ⟨(some 102), .bin .add (.t 101) (.c (.int .i64 1)), .none⟩,
                 ⟨(some 103), .ia 1 (.t 100) (.t 102), .none⟩,
                 ⟨(some 104), .ld1 (.t 103), .none⟩,
                 ⟨(some 105), .bin .add (.t 104) (.c (.int .i64 1)), .none⟩,
                 ⟨(some 106), .ia 1 (.t 98) (.t 99), .none⟩,
                 ⟨.none, .st 1 (.t 106) (.t 105), .none⟩]
def Tryd.fn42_r18 : List AIns :=
   [⟨(some 27), .mov (.t 8), .none⟩,
           ⟨(some 28), .bin .sub (.t 27) (.c (.int .i64 1)), .none⟩,
           ⟨(some 8), .mov (.t 28), .none⟩]
def Tryd.fn42_r19 : List AIns :=
   [⟨(some 107), .mov (.t 5), .none⟩,
        ⟨(some 108), .mov (.t 6), .none⟩,
        ⟨(some 109), .mov (.t 7), .none⟩,
        ⟨(some 110), .ia 1 (.t 107) (.t 108), .none⟩,
        ⟨.none, .st 1 (.t 110) (.t 109), .none⟩]
def Tryd.fn42_r20 : List AIns :=
   [⟨(some 17), .mov (.t 6), .none⟩,
      ⟨(some 18), .bin .sub (.t 17) (.c (.int .i64 1)), .none⟩,
      ⟨(some 6), .mov (.t 18), .none⟩]
def Tryd.fn42_r21 : List AIns :=
   [⟨(some 111), .mov (.t 5), .none⟩,
    ⟨(some 4), .mov (.t 111), .none⟩]
def Tryd.fn42_l0 : ACode :=
 (.seq (.seq (.seq (.reg Tryd.fn42_r6)
           (.trim [0, 1, 5, 6, 7, 8, 26]))
          (.cond (.t 26)
           .skip
           (.exit 2)))
         (.seq (.block 3
           (.seq (.seq (.reg Tryd.fn42_r7)
            (.trim [0, 1, 5, 6, 7, 8, 32]))
           (.cond (.t 32)
            (.seq (.reg Tryd.fn42_r8)
            (.trim [0, 1, 5, 6, 7, 8]))
            (.seq (.seq (.reg Tryd.fn42_r9)
             (.trim [0, 1, 5, 6, 7, 8, 43]))
            (.cond (.t 43)
             (.seq (.reg Tryd.fn42_r10)
             (.trim [0, 1, 5, 6, 7, 8]))
             (.seq (.seq (.regd Tryd.fn42_r11)
              (.trim [0, 1, 5, 6, 7, 8, 59]))
             (.cond (.t 59)
              (.seq (.seq (.reg Tryd.fn42_r12)
               (.trim [0, 1, 5, 6, 7, 8, 60, 61, 69]))
              (.seq (.reg Tryd.fn42_r13)
              (.trim [0, 1, 5, 6, 7, 8])))
              (.seq (.seq (.regd Tryd.fn42_r14)
               (.trim [0, 1, 5, 6, 7, 8, 85]))
              (.cond (.t 85)
               (.seq (.seq (.reg Tryd.fn42_r15)
                (.trim [0, 1, 5, 6, 7, 8, 86, 87, 95]))
               (.seq (.reg Tryd.fn42_r16)
               (.trim [0, 1, 5, 6, 7, 8])))
               (.seq (.reg Tryd.fn42_r17)
               (.trim [0, 1, 5, 6, 7, 8])))))))))))
         (.seq (.reg Tryd.fn42_r18)
         (.trim [0, 1, 5, 6, 7, 8]))))
def Tryd.fn42_l1 : ACode :=
 (.seq (.seq (.seq (.reg Tryd.fn42_r3)
      (.trim [0, 1, 5, 6, 16]))
     (.cond (.t 16)
      .skip
      (.exit 0)))
    (.seq (.block 1
      (.seq (.seq (.reg Tryd.fn42_r4)
       (.trim [0, 1, 5, 6, 7]))
      (.seq (.seq (.seq (.reg Tryd.fn42_r5)
        (.trim [0, 1, 5, 6, 7, 8]))
       (.block 2
        (.loop (some [0, 1, 5, 6, 7, 8])
         Tryd.fn42_l0)))
      (.seq (.reg Tryd.fn42_r19)
      (.trim [0, 1, 5, 6])))))
    (.seq (.reg Tryd.fn42_r20)
    (.trim [0, 1, 5, 6]))))
def Tryd.fn42 : AFun :=
 ⟨112, [.tmp 4],
 (.seq (.seq (.reg Tryd.fn42_r0)
  (.trim [0, 1]))
 (.seq (.seq (.reg Tryd.fn42_r1)
  (.trim [0, 1, 5]))
 (.seq (.seq (.seq (.reg Tryd.fn42_r2)
   (.trim [0, 1, 5, 6]))
  (.block 0
   (.loop (some [0, 1, 5, 6])
    Tryd.fn42_l1)))
 (.seq (.seq (.reg Tryd.fn42_r21)
  (.trim [4]))
 .ret)))), false⟩
/-! (*strings.Builder).WriteString -/
def Tryd.fn45_r0 : List AIns :=
   [⟨(some 4), .mov (.c (.int .i64 0)), .none⟩,
    ⟨(some 5), .mov (.c .nili), .none⟩]
def Tryd.fn45_r1 : List AIns :=
   [⟨(some 6), .mov (.t 0), .none⟩,
    ⟨(some 7), .call 51 [(.t 6)], .none⟩]
def Tryd.fn45_r2 : List AIns :=
   [⟨(some 8), .mov (.t 0), .none⟩,
    ⟨(some 9), .mov (.t 0), .none⟩,
    ⟨(some 10), .nlc (.t 9), .none⟩,
    ⟨(some 11), .fa 1 (.t 10), .none⟩,
    ⟨(some 12), .ld1 (.t 11), .none⟩,
    ⟨(some 13), .mov (.t 1), .none⟩,
    ⟨(some 14), .app 5 1 1 (.t 12) (.t 13), .none⟩,
    ⟨(some 15), .nlc (.t 8), .none⟩,
    ⟨(some 16), .fa 1 (.t 15), .none⟩,
    ⟨.none, .st 1 (.t 16) (.t 14), .none⟩]
def Tryd.fn45_r3 : List AIns :=
   [⟨(some 17), .mov (.t 1), .none⟩,
    ⟨(some 18), .lens (.t 17), .none⟩,
    ⟨(some 4), .mov (.t 18), .none⟩,
    ⟨(some 5), .mov (.c .nili), .none⟩]
def Tryd.fn45 : AFun :=
 ⟨19, [.tmp 4, .tmp 5],
 (.seq (.seq (.reg Tryd.fn45_r0)
  (.trim [0, 1]))
 (.seq (.seq (.reg Tryd.fn45_r1)
  (.trim [0, 1]))
 (.seq (.seq (.reg Tryd.fn45_r2)
  (.trim [1]))
 (.seq (.seq (.reg Tryd.fn45_r3)
  (.trim [4, 5]))
 .ret)))), false⟩
/-! (*strings.Builder).String -/
def Tryd.fn46_r0 : List AIns :=
   [⟨(some 2), .mov (.c (.str [])), .none⟩]
def Tryd.fn46_r1a : List DIns :=
   ⟨⟨(some 9), .nlc (.t 8), .none⟩, [5], [7, 8, 9, 10, 11], 0⟩ ::
   ⟨⟨(some 10), .fa 1 (.t 9), .none⟩, [6, 5], [8, 9, 10, 11], 0⟩ ::
   ⟨⟨(some 11), .ld1 (.t 10), .none⟩, [7, 6, 5], [9, 10, 11], 1⟩ ::
   ⟨⟨(some 12), .lenl (.t 11), .none⟩, [8, 7, 6, 5], [10, 11], 0⟩ ::
   ⟨⟨(some 13), .ustr 5 (.t 7) (.t 12), .none⟩, [4, 9, 3, 2, 1, 0, 8, 7, 6, 5], [11], 2⟩ ::
   ⟨⟨(some 2), .mov (.t 13), .none⟩, [10, 0, 1, 2, 3, 4, 5, 6, 7, 8, 9], [], 0⟩ ::
   []
def Tryd.fn46_r1 : List DIns :=
   ⟨⟨(some 3), .mov (.t 0), .none⟩, [], [1, 2, 3, 4, 10, 11], 0⟩ ::
   ⟨⟨(some 4), .nlc (.t 3), .none⟩, [0], [2, 3, 4, 10, 11], 0⟩ ::
   ⟨⟨(some 5), .fa 1 (.t 4), .none⟩, [1, 0], [3, 4, 10, 11], 0⟩ ::
   ⟨⟨(some 6), .ld1 (.t 5), .none⟩, [2, 1, 0], [4, 10, 11], 1⟩ ::
   ⟨⟨(some 7), .usd (.t 6), .none⟩, [3, 2, 1, 0], [10, 11], 0⟩ ::
   ⟨⟨(some 8), .mov (.t 0), .none⟩, [], [6, 7, 8, 9, 10, 11], 0⟩ ::
   Tryd.fn46_r1a
def Tryd.fn46 : AFun :=
 ⟨14, [.tmp 2],
 (.seq (.seq (.reg Tryd.fn46_r0)
  (.trim [0]))
 (.seq (.seq (.regd Tryd.fn46_r1)
  (.trim [2]))
 .ret)), false⟩
/-! (*strings.Builder).WriteByte -/
def Tryd.fn47_r0 : List AIns :=
   [⟨(some 4), .mov (.c .nili), .none⟩]
def Tryd.fn47_r1 : List AIns :=
   [⟨(some 5), .mov (.t 0), .none⟩,
    ⟨(some 6), .call 51 [(.t 5)], .none⟩]
def Tryd.fn47_r2 : List AIns :=
   [⟨(some 7), .mov (.t 0), .none⟩,
     ⟨(some 8), .mov (.t 0), .none⟩,
     ⟨(some 9), .nlc (.t 8), .none⟩,
     ⟨(some 10), .fa 1 (.t 9), .none⟩,
     ⟨(some 11), .ld1 (.t 10), .none⟩,
     ⟨(some 12), .mov (.t 1), .none⟩,
     ⟨(some 13), .bsl 5 1 1 [(.int .u8 0)] [(0, 1, (.t 12))], .none⟩,
     ⟨(some 14), .app 5 1 1 (.t 11) (.t 13), .none⟩,
     ⟨(some 15), .nlc (.t 7), .none⟩,
     ⟨(some 16), .fa 1 (.t 15), .none⟩]
def Tryd.fn47_r3 : List AIns :=
   [⟨.none, .st 1 (.t 16) (.t 14), .none⟩]
def Tryd.fn47_r4 : List AIns :=
   [⟨(some 4), .mov (.c .nili), .none⟩]
def Tryd.fn47 : AFun :=
 ⟨17, [.tmp 4],
 (.seq (.seq (.reg Tryd.fn47_r0)
  (.trim [0, 1]))
 (.seq (.seq (.reg Tryd.fn47_r1)
  (.trim [0, 1]))
 (.seq (.seq (.seq (.reg Tryd.fn47_r2)
   (.trim [14, 16]))
  (.seq (.reg Tryd.fn47_r3)
  (.trim [])))
 (.seq (.seq (.reg Tryd.fn47_r4)
  (.trim [4]))
 .ret)))), false⟩
/-! signalbench/lex.plain -/
def Tryd.fn48_r0 : List AIns :=
   [⟨(some 2), .mov (.c (.bool false)), .none⟩]
def Tryd.fn48_r1 : List AIns :=
   [⟨(some 3), .mov (.t 0), .none⟩,
     ⟨(some 4), .bin .leq (.c (.int .i32 32)) (.t 3), .none⟩,
     ⟨(some 5), .mov (.t 4), .none⟩,
     ⟨(some 6), .mov (.t 0), (some (5, true))⟩,
     ⟨(some 7), .bin .leq (.t 6) (.c (.int .i32 126)), (some (5, true))⟩,
     ⟨(some 8), .pick (.t 5) (.t 7) (.c (.bool false)), .none⟩,
     ⟨(some 9), .mov (.t 8), .none⟩,
     ⟨(some 10), .mov (.t 0), (some (9, true))⟩,
     ⟨(some 11), .bin .neq (.t 10) (.c (.int .i32 34)), (some (9, true))⟩,
     ⟨(some 12), .pick (.t 9) (.t 11) (.c (.bool false)), .none⟩]
def Tryd.fn48_r2 : List AIns :=
   [⟨(some 13), .mov (.t 12), .none⟩,
    ⟨(some 14), .mov (.t 0), (some (13, true))⟩,
    ⟨(some 15), .bin .neq (.t 14) (.c (.int .i32 92)), (some (13, true))⟩,
    ⟨(some 16), .pick (.t 13) (.t 15) (.c (.bool false)), .none⟩,
    ⟨(some 2), .mov (.t 16), .none⟩]
def Tryd.fn48 : AFun :=
 ⟨17, [.tmp 2],
 (.seq (.seq (.reg Tryd.fn48_r0)
  (.trim [0]))
 (.seq (.seq (.seq (.reg Tryd.fn48_r1)
   (.trim [0, 12]))
  (.seq (.reg Tryd.fn48_r2)
  (.trim [2])))
 .ret)), true⟩
/-! signalbench/signalbenchref07.digits -/
def Tryd.fn49_r0 : List AIns :=
   [⟨(some 2), .mov (.c (.str [])), .none⟩]
def Tryd.fn49_r1 : List AIns :=
   [⟨(some 3), .mov (.t 0), .none⟩,
     ⟨(some 4), .bin .lss (.t 3) (.c (.int .i64 10)), .none⟩]
def Tryd.fn49_r2 : List AIns :=
   [⟨(some 5), .mov (.t 0), .none⟩,
      ⟨(some 6), .mov (.t 0), .none⟩,
      ⟨(some 7), .bin .add (.t 6) (.c (.int .i64 1)), .none⟩,
      ⟨(some 8), .sub (.c (.str [48, 49, 50, 51, 52, 53, 54, 55, 56, 57])) (some (.t 5)) (some (.t 7)), .none⟩,
      ⟨(some 2), .mov (.t 8), .none⟩]
def Tryd.fn49_r3a : List DIns :=
   ⟨⟨(some 15), .bin .rem (.t 14) (.c (.int .i64 10)), .none⟩, [5], [7, 8, 9, 10], 0⟩ ::
   ⟨⟨(some 16), .bin .add (.t 15) (.c (.int .i64 1)), .none⟩, [6, 5], [8, 9, 10], 0⟩ ::
   ⟨⟨(some 17), .sub (.c (.str [48, 49, 50, 51, 52, 53, 54, 55, 56, 57])) (some (.t 13)) (some (.t 16)), .none⟩, [4, 7, 3, 6, 5], [9, 10], 0⟩ ::
   ⟨⟨(some 18), .bin .add (.t 11) (.t 17), .none⟩, [2, 8, 1, 0, 4, 7, 3, 6, 5], [10], 0⟩ ::
   ⟨⟨(some 2), .mov (.t 18), .none⟩, [9, 2, 0, 1, 3, 4, 5, 6, 7, 8], [], 0⟩ ::
   []
def Tryd.fn49_r3 : List DIns :=
   ⟨⟨(some 9), .mov (.t 0), .none⟩, [], [1, 2, 9, 10], 0⟩ ::
   ⟨⟨(some 10), .bin .quo (.t 9) (.c (.int .i64 10)), .none⟩, [0], [2, 9, 10], 0⟩ ::
   ⟨⟨(some 11), .call 49 [(.t 10)], .none⟩, [1, 0], [9, 10], 2⟩ ::
   ⟨⟨(some 12), .mov (.t 0), .none⟩, [], [4, 8, 9, 10], 0⟩ ::
   ⟨⟨(some 13), .bin .rem (.t 12) (.c (.int .i64 10)), .none⟩, [3], [8, 9, 10], 0⟩ ::
   ⟨⟨(some 14), .mov (.t 0), .none⟩, [], [6, 7, 8, 9, 10], 0⟩ ::
   Tryd.fn49_r3a
def Tryd.fn49 : AFun :=
 ⟨19, [.tmp 2],
 (.seq (.seq (.reg Tryd.fn49_r0)
  (.trim [0]))
 (.seq (.seq (.seq (.reg Tryd.fn49_r1)
   (.trim [0, 4]))
  (.cond (.t 4)
   (.seq (.seq (.reg Tryd.fn49_r2)
    (.trim [2]))
   .ret)
   .skip))
 (.seq (.seq (.regd Tryd.fn49_r3)
  (.trim [2]))
 .ret))), true⟩
/-! (*strings.Builder).copyCheck -/
def Tryd.fn51_r0 : List AIns :=
   [⟨(some 2), .mov (.t 0), .none⟩,
    ⟨(some 3), .nlc (.t 2), .none⟩,
    ⟨(some 4), .fa 0 (.t 3), .none⟩,
    ⟨(some 5), .ld1 (.t 4), .none⟩,
    ⟨(some 6), .eqv false true .ptr (.t 5) (.c .nilp), .none⟩]
def Tryd.fn51_r1 : List AIns :=
   [⟨(some 7), .mov (.t 0), .none⟩,
    ⟨(some 8), .mov (.t 0), .none⟩,
    ⟨(some 9), .tous (.t 8), .none⟩,
    ⟨(some 10), .call 57 [(.t 9)], .none⟩,
    ⟨(some 11), .frus 72 2 (.t 10), .none⟩,
    ⟨(some 12), .nlc (.t 7), .none⟩,
    ⟨(some 13), .fa 0 (.t 12), .none⟩,
    ⟨.none, .st 1 (.t 13) (.t 11), .none⟩]
def Tryd.fn51_r2 : List AIns :=
   [⟨(some 14), .mov (.t 0), .none⟩,
     ⟨(some 15), .nlc (.t 14), .none⟩,
     ⟨(some 16), .fa 0 (.t 15), .none⟩,
     ⟨(some 17), .ld1 (.t 16), .none⟩,
     ⟨(some 18), .mov (.t 0), .none⟩,
     ⟨(some 19), .eqv true false .ptr (.t 17) (.t 18), .none⟩]
def Tryd.fn51_r3 : List AIns :=
   [⟨.none, .ext 0 (.c .nilp), .none⟩]
def Tryd.fn51 : AFun :=
 ⟨20, [],
 (.seq (.seq (.reg Tryd.fn51_r0)
  (.trim [0, 6]))
 (.cond (.t 6)
  (.seq (.reg Tryd.fn51_r1)
  (.trim []))
  (.seq (.seq (.reg Tryd.fn51_r2)
   (.trim [19]))
  (.cond (.t 19)
   (.seq (.reg Tryd.fn51_r3)
   (.trim []))
   .skip)))), false⟩
theorem Tryd.fn3_ok : cfunL Tryd.prog Tryd.f3 [.cut [(2, [1])], .keep [2]] true = some Tryd.fn3 := by kernel_rfl
theorem Tryd.fn4_ok : cfunL Tryd.prog Tryd.f4 [.cut [(1, [0, 1, 2])], .cut [(8, [0, 1, 2, 18])], .cut [(2, [6])], .cut [(9, [0, 1, 2, 7, 8])], .cut [(9, [0, 1, 2, 7, 8, 9, 10])], .cut [(10, [0, 1, 2, 42, 43]), (10, [53]), (3, [6])]] true = some Tryd.fn4 := by kernel_rfl
theorem Tryd.fn5_ok : cfunL Tryd.prog Tryd.f5 [.cut [(1, [0, 1, 2, 3])], .cut [(10, [0, 1, 2, 3, 35, 36]), (7, [0, 1, 2, 3, 43])], .cut [(2, [8])], .cut [(9, [0, 1, 3, 9, 10])], .cut [(9, [0, 1, 9, 10, 11, 12])], .cut [(3, [0, 1, 9, 10, 11, 61])], .cut [(1, [8])], .cut [(2, [0, 1, 9, 10, 11, 63])], .cut [(6, [8])], .cut [(2, [0, 1, 9, 11, 13])], .cut [(2, [0, 1, 9, 11, 13, 14])], .cut [(1, [0, 1, 9, 11, 13, 14, 15])], .keep [0, 1, 9, 11, 13, 14, 15], .cut [(4, [0, 1, 9, 11, 13, 14, 15, 74])], .cut [(9, [0, 1, 9, 11, 13, 14, 15])], .cut [(3, [0, 1, 9, 11, 13, 14, 15])], .cut [(1, [0, 1, 9, 11, 13, 14, 16])], .keep [0, 1, 9, 11, 13, 14, 16], .cut [(4, [0, 1, 9, 11, 13, 14, 16, 88])], .cut [(9, [0, 1, 9, 11, 13, 14, 16])], .cut [(3, [0, 1, 9, 11, 13, 14, 16])], .cut [(8, [0, 1, 9, 11, 17, 18])], .cut [(10, [0, 1, 11, 17, 18, 19, 111, 112, 113]), (3, [0, 1, 11, 17, 18, 19, 20, 21, 22])], .cut [(10, [0, 1, 17, 18, 19, 20, 21, 22, 23, 120, 121, 122]), (3, [0, 1, 17, 18, 19, 20, 21, 22, 23, 24, 25, 26])], .cut [(10, [0, 1, 17, 19, 20, 21, 23, 24, 25, 131, 132]), (10, [0, 1, 19, 20, 21, 24, 25, 142]), (10, [0, 1, 19, 20, 152]), (10, [153, 162]), (5, [8])]] true = some Tryd.fn5 := by kernel_rfl
theorem Tryd.fn6_ok : cfunL Tryd.prog Tryd.f6 [.cut [(1, [0, 1, 2])], .cut [(7, [0, 1, 2, 18])], .cut [(2, [6])], .cut [(1, [0, 1, 2, 7])], .keep [0, 1, 2, 7], .cut [(4, [0, 1, 2, 7, 23])], .cut [(6, [0, 1, 2, 7, 31])], .cut [(9, [6])], .cut [(3, [0, 1, 2, 7])], .cut [(8, [0, 2, 8, 9])], .cut [(9, [0, 2, 8, 9, 10, 11])], .cut [(10, [0, 2, 8, 9, 60, 61, 62]), (4, [0, 2, 8, 9, 66])], .cut [(1, [6])], .cut [(2, [0, 2, 8, 68])], .cut [(2, [6])], .cut [(10, [79]), (4, [6])]] true = some Tryd.fn6 := by kernel_rfl
theorem Tryd.fn7_ok : cfunL Tryd.prog Tryd.f7 [.cut [(2, [1])], .cut [(3, [1, 7])], .cut [(1, [2])], .cut [(8, [3])], .cut [(2, [2])]] true = some Tryd.fn7 := by kernel_rfl
theorem Tryd.fn8_ok : cfunL Tryd.prog Tryd.f8 [.cut [(2, [1])], .cut [(3, [1, 7])], .cut [(1, [2])], .cut [(8, [3])], .cut [(2, [2])]] true = some Tryd.fn8 := by kernel_rfl
theorem Tryd.fn9_ok : cfunL Tryd.prog Tryd.f9 [.cut [(1, [])], .cut [(5, [1])], .cut [(5, [1, 2])], .cut [(8, [1, 2, 3, 4])], .cut [(4, [1, 2, 3, 4, 5])], .cut [(4, [1, 2, 3, 4, 5])], .cut [(8, [1, 2, 3, 4, 5, 6, 7])], .cut [(8, [1, 3, 4, 5, 6, 7, 9])], .keep [0]] true = some Tryd.fn9 := by kernel_rfl
theorem Tryd.fn10_ok : cfunL Tryd.prog Tryd.f10 [.cut [(2, [0, 1, 2])], .cut [(7, [0, 1, 2, 8, 9])], .cut [(7, [0, 1, 2, 8, 9, 10, 11])], .cut [(10, [0, 1, 2, 8, 10, 38])], .cut [(2, [6, 7])], .cut [(8, [0, 1, 2, 12, 13])], .cut [(2, [0, 1, 2, 12, 13, 46])], .cut [(3, [6, 7])], .cut [(5, [0, 1, 2, 12, 14])], .cut [(1, [0, 1, 2, 12, 14, 15])], .cut [(3, [0, 1, 2, 14, 15, 52, 53, 54])], .keep [0, 1, 2, 14, 15, 52, 53, 54], .cut [(1, [0, 1, 2, 14, 15, 52, 53, 54, 55])], .cut [(4, [0, 1, 2, 14, 15, 17, 52, 53, 54])], .cut [(8, [0, 1, 2, 14, 15, 18, 52, 53, 54])], .cut [(3, [0, 1, 2, 14, 15, 18, 52, 53, 54, 66])], .cut [(5, [0, 1, 2, 14, 15, 52, 53, 54])], .cut [(2, [0, 1, 2, 14, 15, 52, 53, 54])], .cut [(3, [6, 7])]] true = some Tryd.fn10 := by kernel_rfl
theorem Tryd.fn11_ok : cfunL Tryd.prog Tryd.f11 [.cut [(2, [0, 1, 2])], .cut [(7, [0, 1, 2, 8, 9])], .cut [(7, [0, 1, 2, 8, 9, 10, 11])], .cut [(10, [0, 1, 2, 8, 10, 38])], .cut [(2, [6, 7])], .cut [(8, [0, 1, 2, 12, 13])], .cut [(2, [0, 1, 2, 12, 13, 46])], .cut [(3, [6, 7])], .cut [(5, [0, 1, 2, 12, 14])], .cut [(2, [0, 1, 2, 12, 14, 15])], .cut [(1, [0, 1, 2, 12, 14, 15, 16])], .keep [0, 1, 2, 12, 14, 15, 16], .cut [(4, [0, 1, 2, 12, 14, 15, 16, 56])], .cut [(6, [0, 1, 2, 12, 14, 15, 16, 17])], .cut [(3, [0, 1, 2, 12, 14, 15, 16, 17, 65])], .cut [(7, [0, 1, 2, 12, 14, 15, 16])], .cut [(3, [0, 1, 2, 12, 14, 15, 16, 17, 74])], .cut [(7, [0, 1, 2, 12, 14, 15, 16])], .keep [0, 1, 2, 12, 14, 15, 16, 17, 18], .cut [(9, [0, 1, 2, 12, 14, 15, 16, 17, 104])], .cut [(9, [0, 1, 2, 12, 14, 15, 16])], .cut [(3, [0, 1, 2, 12, 14, 15, 16])], .cut [(3, [6, 7])]] true = some Tryd.fn11 := by kernel_rfl
theorem Tryd.fn12_ok : cfunL Tryd.prog Tryd.f12 [.cut [(1, [0, 1])], .cut [(5, [0, 1, 10])], .cut [(1, [4])], .cut [(1, [0, 1, 5])], .keep [0, 1, 5], .cut [(4, [0, 1, 5, 14])], .keep [0, 1, 5, 25], .cut [(1, [4])], .cut [(3, [0, 1, 5])], .cut [(1, [4])]] true = some Tryd.fn12 := by kernel_rfl
theorem Tryd.fn13_ok : cfunL Tryd.prog Tryd.f13 [.cut [(1, [0, 1, 2])], .cut [(9, [7, 8])], .cut [(8, [6])]] true = some Tryd.fn13 := by kernel_rfl
theorem Tryd.fn14_ok : cfunL Tryd.prog Tryd.f14 [.cut [(1, [0, 1, 2])], .cut [(9, [7, 8])], .cut [(8, [6])]] true = some Tryd.fn14 := by kernel_rfl
theorem Tryd.fn15_ok : cfunL Tryd.prog Tryd.f15 [.cut [(2, [0, 1])], .cut [(4, [0, 1, 15])], .cut [(2, [4, 5])], .cut [(1, [0, 1, 6])], .cut [(4, [0, 1, 6, 18, 19])], .keep [0, 1, 6, 18, 19], .cut [(1, [0, 1, 6, 18, 19, 20])], .cut [(2, [0, 1, 6, 7, 18, 19])], .cut [(5, [0, 1, 6, 18, 19])], .cut [(2, [0, 1, 6, 18, 19])], .cut [(3, [0, 1, 6, 28, 29])], .keep [0, 1, 6, 28, 29], .cut [(1, [0, 1, 6, 28, 29, 30])], .cut [(2, [0, 1, 6, 8, 28, 29])], .cut [(7, [0, 1, 6, 8, 9, 10, 28, 29])], .cut [(6, [0, 1, 6, 8, 9, 10, 28, 29])], .cut [(3, [0, 1, 6, 8, 9, 10, 28, 29, 43, 44])], .keep [0, 1, 6, 8, 9, 10, 28, 29, 43, 44], .cut [(1, [0, 1, 6, 8, 9, 10, 28, 29, 43, 44, 45])], .cut [(2, [0, 1, 6, 8, 9, 10, 11, 28, 29, 43, 44])], .keep [0, 1, 6, 8, 9, 10, 11, 28, 29, 43, 44, 55], .keep [0, 1, 6, 8, 9, 10, 28, 29, 43, 44], .keep [0, 1, 6, 8, 9, 10, 28, 29, 43, 44], .cut [(2, [0, 1, 6, 8, 9, 10, 28, 29, 43, 44])], .cut [(2, [0, 1, 6, 28, 29])], .cut [(10, [4, 5])]] true = some Tryd.fn15 := by kernel_rfl
theorem Tryd.fn16_ok : cfunL Tryd.prog Tryd.f16 [.cut [(4, [0, 1, 2])], .cut [(3, [0, 1, 2, 10, 11, 12])], .cut [(1, [0, 1, 2, 10, 11, 12, 13])], .keep [0, 1, 2, 10, 11, 12, 13], .cut [(4, [0, 1, 2, 10, 11, 12, 13, 18])], .cut [(6, [0, 1, 2, 10, 11, 12, 13, 14])], .cut [(10, [0, 1, 2, 10, 11, 12, 13, 14, 33, 34]), (10, [0, 1, 2, 10, 11, 12, 13, 14, 44])], .cut [(3, [0, 1, 2, 10, 11, 12, 13])], .cut [(10, [0, 1, 2, 10, 11, 12, 13, 14, 55, 56]), (10, [0, 1, 2, 10, 11, 12, 13, 14, 66])], .cut [(3, [0, 1, 2, 10, 11, 12, 13])], .cut [(10, [0, 1, 2, 10, 11, 12, 13, 14, 77, 78]), (10, [0, 1, 2, 10, 11, 12, 13, 14, 88]), (7, [0, 1, 2, 10, 11, 12, 13, 14, 95])], .keep [0, 1, 2, 10, 11, 12, 13, 108], .cut [(4, [6, 7, 8, 9])], .cut [(3, [0, 1, 2, 10, 11, 12, 13])], .cut [(4, [6, 7, 8, 9])], .cut [(3, [0, 1, 2, 10, 11, 12, 13])], .cut [(7, [6, 7, 8, 9])]] true = some Tryd.fn16 := by kernel_rfl
theorem Tryd.fn17_ok : cfunL Tryd.prog Tryd.f17 [.cut [(2, [1])], .cut [(9, [1, 3])], .cut [(1, [2])], .cut [(10, [1, 22]), (6, [1, 12])], .cut [(1, [2])], .cut [(10, [1, 37, 38]), (9, [1, 28])], .cut [(1, [2])], .cut [(10, [1, 56]), (5, [2])]] true = some Tryd.fn17 := by kernel_rfl
theorem Tryd.fn18_ok : cfunL Tryd.prog Tryd.f18 [.cut [(2, [0, 1])], .cut [(3, [0, 1, 10, 11, 12])], .keep [0, 1, 10, 11, 12], .cut [(1, [0, 1, 10, 11, 12, 13])], .cut [(4, [0, 1, 7, 10, 11, 12])], .cut [(3, [0, 1, 10, 11, 12, 18])], .cut [(2, [4, 5])], .cut [(2, [0, 1, 10, 11, 12])], .cut [(10, [0, 1, 23, 29]), (1, [0, 1, 30])], .cut [(2, [4, 5])], .cut [(3, [1, 8])], .cut [(3, [1, 8, 34, 35])], .keep [1, 8, 34, 35], .cut [(1, [1, 8, 34, 35, 36])], .cut [(2, [1, 8, 9, 34, 35])], .cut [(10, [1, 8, 9, 34, 35])], .cut [(10, [1, 8, 9, 34, 35])], .cut [(6, [1, 8, 34, 35, 61])], .cut [(2, [4, 5])], .cut [(2, [1, 8, 34, 35])], .cut [(3, [4, 5])]] true = some Tryd.fn18 := by kernel_rfl
theorem Tryd.fn19_ok : cfunL Tryd.prog Tryd.f19 [.cut [(3, [1])], .cut [(3, [1, 9])], .cut [(2, [2, 3])], .keep [1, 4], .cut [(10, [1, 4, 18, 20, 22, 24, 26]), (3, [1, 4, 27, 28, 29])], .keep [1, 4, 27, 28, 29], .cut [(1, [1, 4, 27, 28, 29, 30])], .cut [(3, [1, 4, 6, 27, 28, 29])], .cut [(6, [1, 4, 27, 28, 29])], .cut [(2, [1, 4, 27, 28, 29])], .cut [(9, [2, 3])]] true = some Tryd.fn19 := by kernel_rfl
theorem Tryd.fn20_ok : cfunL Tryd.prog Tryd.f20 [.cut [(2, [1, 2])], .cut [(4, [1, 2])], .cut [(2, [2])]] true = some Tryd.fn20 := by kernel_rfl
theorem Tryd.fn21_ok : cfunL Tryd.prog Tryd.f21 [.cut [(2, [1])], .cut [(10, [1, 11, 12]), (10, [1, 22]), (10, [1, 28, 32]), (10, [1, 39, 42]), (1, [1, 43])], .cut [(1, [2])], .cut [(10, [1, 52, 53]), (9, [2])]] true = some Tryd.fn21 := by kernel_rfl
theorem Tryd.fn22_ok : cfunL Tryd.prog Tryd.f22 [.cut [(3, [1])], .cut [(3, [1, 7])], .cut [(2, [2, 3])], .keep [1, 4], .cut [(8, [2, 3])]] true = some Tryd.fn22 := by kernel_rfl
theorem Tryd.fn23_ok : cfunL Tryd.prog Tryd.f23 [.cut [(2, [1, 2])], .cut [(2, [1, 2])], .cut [(2, [1, 2])], .cut [(2, [2])]] true = some Tryd.fn23 := by kernel_rfl
theorem Tryd.fn24_ok : cfunL Tryd.prog Tryd.f24 [.cut [(1, [0, 1, 4])], .cut [(6, [4])]] true = some Tryd.fn24 := by kernel_rfl
theorem Tryd.fn25_ok : cfunL Tryd.prog Tryd.f25 [.cut [(2, [0])], .cut [(1, [0, 4])], .cut [(3, [4, 7, 8, 9])], .keep [4, 7, 8, 9], .cut [(1, [4, 7, 8, 9, 10])], .cut [(4, [4, 6, 7, 8, 9])], .cut [(3, [4, 6, 7, 8, 9, 15])], .cut [(2, [2, 3])], .cut [(6, [4, 7, 8, 9])], .cut [(2, [4, 7, 8, 9])], .cut [(3, [2, 3])]] true = some Tryd.fn25 := by kernel_rfl
theorem Tryd.fn26_ok : cfunL Tryd.prog Tryd.f26 [.cut [(2, [0, 1])], .cut [(4, [0, 1, 13])], .cut [(2, [4, 5])], .cut [(4, [0, 1, 6])], .cut [(1, [0, 1, 6, 7])], .cut [(2, [0, 1, 6, 7, 8, 9])], .keep [0, 1, 6, 7, 8, 9], .cut [(10, [0, 1, 6, 7, 8, 9, 26])], .keep [0, 1, 6, 7, 8, 9, 34], .cut [(7, [0, 1, 6, 7, 8, 9])], .cut [(6, [0, 1, 6, 7, 8, 9])], .keep [0, 1, 6, 7, 8, 9, 66], .cut [(6, [0, 1, 6, 7, 8, 9])], .cut [(3, [0, 1, 6, 7, 8, 9])], .cut [(6, [0, 1, 6, 7, 8, 9])], .cut [(3, [0, 1, 6, 7, 8, 9])], .cut [(3, [4, 5])]] true = some Tryd.fn26 := by kernel_rfl
theorem Tryd.fn27_ok : cfunL Tryd.prog Tryd.f27 [.cut [(1, [0, 1, 2])], .cut [(3, [0, 1, 9, 10, 11])], .keep [0, 1, 9, 10, 11], .cut [(1, [0, 1, 9, 10, 11, 12])], .cut [(4, [0, 1, 8, 9, 10, 11])], .cut [(8, [0, 1, 8, 9, 10, 11, 22])], .keep [6], .cut [(2, [0, 1, 9, 10, 11])], .cut [(1, [6])]] true = some Tryd.fn27 := by kernel_rfl
theorem Tryd.fn28_ok : cfunL Tryd.prog Tryd.f28 [.cut [(2, [0, 1, 3, 4, 7, 10])], .cut [(4, [0, 1, 3, 4, 7, 10, 12])], .cut [(4, [10])], .cut [(4, [0, 1, 3, 4, 7, 10, 19])], .cut [(4, [10])], .keep [4, 7, 10, 11], .cut [(6, [7, 10, 46])], .cut [(6, [10])], .cut [(2, [10])]] true = some Tryd.fn28 := by kernel_rfl
theorem Tryd.fn29_ok : cfunL Tryd.prog Tryd.f29 [.cut [(2, [0])], .cut [(4, [0, 4])], .cut [(1, [0, 4, 5])], .keep [0, 4, 5], .cut [(4, [0, 4, 5, 12])], .cut [(6, [0, 4, 5, 20])], .cut [(2, [2, 3])], .cut [(9, [0, 4, 5])], .cut [(3, [0, 4, 5])], .cut [(3, [2, 3])]] true = some Tryd.fn29 := by kernel_rfl
theorem Tryd.fn30_ok : cfunL Tryd.prog Tryd.f30 [.cut [(2, [0, 1])], .cut [(8, [0, 1, 17])], .cut [(2, [4, 5])], .cut [(6, [0, 1, 6, 7])], .cut [(2, [0, 1, 6, 7, 8, 9])], .keep [0, 1, 6, 7, 8, 9], .cut [(10, [0, 1, 6, 7, 8, 9, 31])], .keep [0, 1, 6, 7, 8, 9, 52], .cut [(7, [0, 1, 6, 7, 8, 9])], .cut [(3, [0, 1, 6, 7, 8, 9])], .cut [(3, [0, 1, 6, 7, 8, 9])], .keep [0, 1, 6, 7, 8, 9, 85], .cut [(6, [0, 1, 6, 7, 8, 9])], .cut [(3, [0, 1, 6, 7, 8, 9])], .cut [(6, [0, 1, 6, 7, 8, 9])], .cut [(3, [0, 1, 6, 7, 8, 9])], .cut [(3, [4, 5])]] true = some Tryd.fn30 := by kernel_rfl
theorem Tryd.fn31_ok : cfunL Tryd.prog Tryd.f31 [.cut [(1, [0, 1, 2])], .cut [(1, [0, 1, 2, 7])], .keep [0, 1, 2, 7], .cut [(4, [0, 1, 2, 7, 11])], .cut [(10, [0, 1, 2, 7, 20, 23]), (4, [0, 1, 2, 7, 27])], .keep [6], .cut [(3, [0, 1, 2, 7])], .cut [(1, [6])]] true = some Tryd.fn31 := by kernel_rfl
theorem Tryd.fn32_ok : cfunL Tryd.prog Tryd.f32 [.cut [(1, [0, 1])], .cut [(9, [4])]] true = some Tryd.fn32 := by kernel_rfl
theorem Tryd.fn33_ok : cfunL Tryd.prog Tryd.f33 [.cut [(1, [0])], .cut [(2, [0, 4])], .cut [(1, [2])], .cut [(4, [2])]] true = some Tryd.fn33 := by kernel_rfl
theorem Tryd.fn34_ok : cfunL Tryd.prog Tryd.f34 [.cut [(1, [])], .cut [(2, [0])]] true = some Tryd.fn34 := by kernel_rfl
theorem Tryd.fn37_ok : cfunL Tryd.prog Tryd.f37 [.cut [(1, [0])], .cut [(1, [0, 3])], .cut [(1, [0, 3])], .cut [(3, [0, 3, 8, 9])], .keep [0, 3, 8, 9], .cut [(1, [0, 3, 8, 9, 10])], .cut [(2, [0, 3, 4, 8, 9])], .cut [(4, [0, 3, 5, 8, 9])], .cut [(4, [0, 3, 5, 8, 9, 24])], .cut [(2, [0, 3, 8, 9])], .cut [(7, [0, 3, 5, 8, 9, 30])], .cut [(1, [0, 3, 5, 8, 9])], .cut [(2, [0, 3, 8, 9])], .cut [(3, [0, 3, 5, 8, 9, 40])], .cut [(1, [0, 3, 8, 9])], .cut [(1, [0, 3, 5, 8, 9])], .cut [(4, [0, 3, 5, 8, 9])], .cut [(4, [0, 3, 8, 9])], .cut [(2, [0, 3, 8, 9])], .cut [(1, [3])], .cut [(2, [2])]] true = some Tryd.fn37 := by kernel_rfl
theorem Tryd.fn38_ok : cfunL Tryd.prog Tryd.f38 [.cut [(1, [])], .cut [(2, [0])]] true = some Tryd.fn38 := by kernel_rfl
theorem Tryd.fn39_ok : cfunL Tryd.prog Tryd.f39 [.cut [(1, [0])], .cut [(2, [0, 4])], .cut [(5, [2])], .cut [(3, [2])]] true = some Tryd.fn39 := by kernel_rfl
theorem Tryd.fn40_ok : cfunL Tryd.prog Tryd.f40 [.cut [(1, [0])], .cut [(1, [0, 3])], .cut [(2, [0, 3, 4])], .cut [(1, [0, 3, 4, 5])], .keep [0, 3, 4, 5], .cut [(4, [0, 3, 4, 5, 11])], .cut [(4, [0, 3, 4, 5, 6])], .cut [(6, [0, 3, 4, 5, 6, 22])], .cut [(5, [0, 3, 4, 5])], .cut [(2, [0, 3, 4, 5, 6, 28])], .cut [(4, [0, 3, 4, 5])], .cut [(6, [0, 3, 4, 5, 6, 37])], .keep [0, 3, 4, 5], .cut [(5, [0, 3, 4, 5])], .cut [(3, [0, 3, 4, 5])], .cut [(5, [2])]] true = some Tryd.fn40 := by kernel_rfl
theorem Tryd.fn41_ok : cfunL Tryd.prog Tryd.f41 [.cut [(1, [0, 1])], .cut [(5, [0, 1, 5])], .cut [(3, [0, 1, 5, 6])], .keep [0, 1, 5, 6], .cut [(2, [0, 1, 5, 6, 15])], .cut [(8, [0, 1, 5, 6])], .cut [(3, [0, 1, 5, 6, 7])], .keep [0, 1, 5, 6, 7], .cut [(2, [0, 1, 5, 6, 7, 28])], .cut [(5, [0, 1, 5, 6, 7, 55])], .cut [(10, [0, 1, 5, 6, 7, 68, 69]), (1, [0, 1, 5, 6, 7])], .cut [(5, [0, 1, 5, 6, 7, 70])], .cut [(10, [0, 1, 5, 6, 7, 83, 84]), (1, [0, 1, 5, 6, 7])], .keep [0, 1, 5, 6, 7, 85], .keep [0, 1, 5, 6, 7], .keep [0, 1, 5, 6, 7], .cut [(3, [0, 1, 5, 6, 7])], .cut [(3, [0, 1, 5, 6])], .cut [(2, [4])]] false = some Tryd.fn41 := by kernel_rfl
theorem Tryd.fn42_ok : cfunL Tryd.prog Tryd.f42 [.cut [(1, [0, 1])], .cut [(5, [0, 1, 5])], .cut [(3, [0, 1, 5, 6])], .keep [0, 1, 5, 6], .cut [(2, [0, 1, 5, 6, 16])], .cut [(5, [0, 1, 5, 6, 7])], .cut [(3, [0, 1, 5, 6, 7, 8])], .keep [0, 1, 5, 6, 7, 8], .cut [(2, [0, 1, 5, 6, 7, 8, 26])], .cut [(4, [0, 1, 5, 6, 7, 8, 32])], .cut [(8, [0, 1, 5, 6, 7, 8])], .cut [(4, [0, 1, 5, 6, 7, 8, 43])], .cut [(8, [0, 1, 5, 6, 7, 8])], .keep [0, 1, 5, 6, 7, 8, 59], .cut [(10, [0, 1, 5, 6, 7, 8, 60, 61, 69]), (3, [0, 1, 5, 6, 7, 8])], .keep [0, 1, 5, 6, 7, 8, 85], .cut [(10, [0, 1, 5, 6, 7, 8, 86, 87, 95]), (3, [0, 1, 5, 6, 7, 8])], .cut [(10, [0, 1, 5, 6, 7, 8])], .cut [(3, [0, 1, 5, 6, 7, 8])], .cut [(5, [0, 1, 5, 6])], .cut [(3, [0, 1, 5, 6])], .cut [(2, [4])]] false = some Tryd.fn42 := by kernel_rfl
theorem Tryd.fn45_ok : cfunL Tryd.prog Tryd.f45 [.cut [(2, [0, 1])], .cut [(2, [0, 1])], .cut [(10, [1])], .cut [(4, [4, 5])]] false = some Tryd.fn45 := by kernel_rfl
theorem Tryd.fn46_ok : cfunL Tryd.prog Tryd.f46 [.cut [(1, [0])], .keep [2]] false = some Tryd.fn46 := by kernel_rfl
theorem Tryd.fn47_ok : cfunL Tryd.prog Tryd.f47 [.cut [(1, [0, 1])], .cut [(2, [0, 1])], .cut [(10, [14, 16]), (1, [])], .cut [(1, [4])]] false = some Tryd.fn47 := by kernel_rfl
theorem Tryd.fn48_ok : cfunL Tryd.prog Tryd.f48 [.cut [(1, [0])], .cut [(10, [0, 12]), (5, [2])]] true = some Tryd.fn48 := by kernel_rfl
theorem Tryd.fn49_ok : cfunL Tryd.prog Tryd.f49 [.cut [(1, [0])], .cut [(2, [0, 4])], .cut [(5, [2])], .keep [2]] true = some Tryd.fn49 := by kernel_rfl
theorem Tryd.fn51_ok : cfunL Tryd.prog Tryd.f51 [.cut [(5, [0, 6])], .cut [(8, [])], .cut [(6, [19])], .cut [(1, [])]] false = some Tryd.fn51 := by kernel_rfl
def Tryd.tab : List (Nat × AFun) :=
  [(3, Tryd.fn3), (4, Tryd.fn4), (5, Tryd.fn5), (6, Tryd.fn6), (7, Tryd.fn7), (8, Tryd.fn8), (9, Tryd.fn9), (10, Tryd.fn10), (11, Tryd.fn11), (12, Tryd.fn12), (13, Tryd.fn13), (14, Tryd.fn14), (15, Tryd.fn15), (16, Tryd.fn16), (17, Tryd.fn17), (18, Tryd.fn18), (19, Tryd.fn19), (20, Tryd.fn20), (21, Tryd.fn21), (22, Tryd.fn22), (23, Tryd.fn23), (24, Tryd.fn24), (25, Tryd.fn25), (26, Tryd.fn26), (27, Tryd.fn27), (28, Tryd.fn28), (29, Tryd.fn29), (30, Tryd.fn30), (31, Tryd.fn31), (32, Tryd.fn32), (33, Tryd.fn33), (34, Tryd.fn34), (37, Tryd.fn37), (38, Tryd.fn38), (39, Tryd.fn39), (40, Tryd.fn40), (41, Tryd.fn41), (42, Tryd.fn42), (45, Tryd.fn45), (46, Tryd.fn46), (47, Tryd.fn47), (48, Tryd.fn48), (49, Tryd.fn49), (51, Tryd.fn51)]
theorem Tryd.tabOk : TabOk Tryd.prog (lk Tryd.tab) :=
  tabOk_cons Tryd.func3 _ _ Tryd.fn3_ok <|
  tabOk_cons Tryd.func4 _ _ Tryd.fn4_ok <|
  tabOk_cons Tryd.func5 _ _ Tryd.fn5_ok <|
  tabOk_cons Tryd.func6 _ _ Tryd.fn6_ok <|
  tabOk_cons Tryd.func7 _ _ Tryd.fn7_ok <|
  tabOk_cons Tryd.func8 _ _ Tryd.fn8_ok <|
  tabOk_cons Tryd.func9 _ _ Tryd.fn9_ok <|
  tabOk_cons Tryd.func10 _ _ Tryd.fn10_ok <|
  tabOk_cons Tryd.func11 _ _ Tryd.fn11_ok <|
  tabOk_cons Tryd.func12 _ _ Tryd.fn12_ok <|
  tabOk_cons Tryd.func13 _ _ Tryd.fn13_ok <|
  tabOk_cons Tryd.func14 _ _ Tryd.fn14_ok <|
  tabOk_cons Tryd.func15 _ _ Tryd.fn15_ok <|
  tabOk_cons Tryd.func16 _ _ Tryd.fn16_ok <|
  tabOk_cons Tryd.func17 _ _ Tryd.fn17_ok <|
  tabOk_cons Tryd.func18 _ _ Tryd.fn18_ok <|
  tabOk_cons Tryd.func19 _ _ Tryd.fn19_ok <|
  tabOk_cons Tryd.func20 _ _ Tryd.fn20_ok <|
  tabOk_cons Tryd.func21 _ _ Tryd.fn21_ok <|
  tabOk_cons Tryd.func22 _ _ Tryd.fn22_ok <|
  tabOk_cons Tryd.func23 _ _ Tryd.fn23_ok <|
  tabOk_cons Tryd.func24 _ _ Tryd.fn24_ok <|
  tabOk_cons Tryd.func25 _ _ Tryd.fn25_ok <|
  tabOk_cons Tryd.func26 _ _ Tryd.fn26_ok <|
  tabOk_cons Tryd.func27 _ _ Tryd.fn27_ok <|
  tabOk_cons Tryd.func28 _ _ Tryd.fn28_ok <|
  tabOk_cons Tryd.func29 _ _ Tryd.fn29_ok <|
  tabOk_cons Tryd.func30 _ _ Tryd.fn30_ok <|
  tabOk_cons Tryd.func31 _ _ Tryd.fn31_ok <|
  tabOk_cons Tryd.func32 _ _ Tryd.fn32_ok <|
  tabOk_cons Tryd.func33 _ _ Tryd.fn33_ok <|
  tabOk_cons Tryd.func34 _ _ Tryd.fn34_ok <|
  tabOk_cons Tryd.func37 _ _ Tryd.fn37_ok <|
  tabOk_cons Tryd.func38 _ _ Tryd.fn38_ok <|
  tabOk_cons Tryd.func39 _ _ Tryd.fn39_ok <|
  tabOk_cons Tryd.func40 _ _ Tryd.fn40_ok <|
  tabOk_cons Tryd.func41 _ _ Tryd.fn41_ok <|
  tabOk_cons Tryd.func42 _ _ Tryd.fn42_ok <|
  tabOk_cons Tryd.func45 _ _ Tryd.fn45_ok <|
  tabOk_cons Tryd.func46 _ _ Tryd.fn46_ok <|
  tabOk_cons Tryd.func47 _ _ Tryd.fn47_ok <|
  tabOk_cons Tryd.func48 _ _ Tryd.fn48_ok <|
  tabOk_cons Tryd.func49 _ _ Tryd.fn49_ok <|
  tabOk_cons Tryd.func51 _ _ Tryd.fn51_ok <|
  tabOk_nil _
end Go.Am
