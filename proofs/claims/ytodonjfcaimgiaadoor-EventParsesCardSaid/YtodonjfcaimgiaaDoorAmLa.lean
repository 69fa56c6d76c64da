/-
EventLines on the machine. Conditions: none.
-/
import Derived.Test.YtodonjfcaimgiaaDoorAmKj
set_option linter.unusedSimpArgs false
set_option linter.unusedVariables false
namespace Go.Am

def lineR (x : Ev) : List UInt8 := if x.ok = true then lineL x else []
def lineE (x : Ev) : Int := if x.ok = true then 0 else 1

theorem Tryd.lineAll (x : Ev) (H : AH) : Tryd.call 22 [x.av] H = some (.ok (.tup [.str (lineR x), .int .i64 (lineE x)]), H) := by
  unfold lineR lineE
  cases h : x.ok with
  | true => exact Tryd.line x H h
  | false => exact Tryd.lineBad x H h
theorem Tryd.lineRefAll (x : Ev) (H : AH) : Tryd.call 23 [x.av] H = some (.ok (.tup [.str (lineR x), .int .i64 (lineE x)]), H) := by
  unfold lineR lineE
  cases h : x.ok with
  | true => exact Tryd.lineRef x H h
  | false => exact Tryd.lineRefBad x H h

theorem Tryd.awake (H : AH) : Tryd.call 9 [] H = some (.ok (.bool true), H) := ecall_of 8 [] _ _ (n := 100) (congrFun Tryd.awake_run H)

theorem Tryd.lawLines (x : Ev) (H : AH) : Tryd.call 5 [x.av] H = some (.ok (.bool true), H) := by
  refine ecall_flat 8 [] _ _ (out := [.bool true]) rfl rfl rfl (views_agg x.flat (views_nil H 8)) rfl ?_
  show W Tryd.call _ _ _ _ _
  have h1 := Tryd.lineAll x
  have h2 := Tryd.lineRefAll x
  have h3 := Tryd.awake
  generalize lineR x = r at h1 h2
  generalize lineE x = s at h1 h2
  obtain ⟨k, f, t, v, a, d, ft⟩ := x
  simp only [Ev.av, Ev.cells] at h1 h2 ⊢
  simp only [Tryd.fn5, AmR, number, List.append_nil]
  simp only [Tryd.fn5_r0, AmR, kp, exe, Arg.val, Env.at, lk, putd, AV.cells?, ok1, AH.push, Option.getD_some, if_true, if_false, reduceCtorEq, Nat.reduceEqDiff, Nat.reduceAdd]
  simp only [Tryd.fn5_r1, AmR, kp, pushA, exe, Arg.val, Env.at, lk, putd, ok1, okM, AH.get, abin, Option.getD_some, if_true, if_false, List.getElem?_cons_zero, List.getElem?_cons_succ, Nat.reduceEqDiff, Nat.reduceAdd]
  refine ⟨fun _ => ?_, fun _ => ?_⟩
  · simp only [Tryd.fn5_r2, h3, AmR, kp, exe, Arg.val, Env.at, lk, putd, ok1, Option.getD_some, if_true, if_false, Nat.reduceEqDiff, resAll, resOf, List.map_nil]
  · simp only [Tryd.fn5_r3, h1, AmR, kp, exe, Arg.val, Env.at, lk, putd, ok1, okM, AH.get, Option.getD_some, if_true, if_false, List.getElem?_cons_zero, List.getElem?_cons_succ, Nat.reduceEqDiff, Nat.reduceAdd, Nat.reduceLeDiff, List.map_cons, List.map_nil, AH.cellsAt, List.length_cons, List.length_nil, List.drop_zero, List.take_succ_cons, List.take_zero, Option.map_some]
    simp only [Tryd.fn5_r4, h2, AmR, kp, exe, Arg.val, Env.at, lk, putd, ok1, okM, AH.get, Option.getD_some, if_true, if_false, List.getElem?_cons_zero, List.getElem?_cons_succ, Nat.reduceEqDiff, Nat.reduceAdd, Nat.reduceLeDiff, List.map_cons, List.map_nil, AH.cellsAt, List.length_cons, List.length_nil, List.drop_zero, List.take_succ_cons, List.take_zero, Option.map_some]
    simp only [Tryd.fn5_r5, h3, beq_self_eq_true, AmR, kp, exe, Arg.val, Env.at, lk, putd, ok1, okM, abin, Option.getD_some, if_true, if_false, Nat.reduceEqDiff, List.map_nil]
    simp only [Tryd.fn5_r6, AmR, kp, exe, Arg.val, Env.at, lk, putd, ok1, Option.getD_some, if_true, if_false, Nat.reduceEqDiff, resAll, resOf]

end Go.Am
