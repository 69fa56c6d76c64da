/-
Contracts of the functions on single events, continued. Conditions: those that each theorem names.
-/
import Derived.Test.YtodonjfcaimgiaaDoorAmKa
import Derived.IntWalk
set_option linter.unusedSimpArgs false
set_option linter.unusedVariables false
namespace Go.Am

theorem Tryd.validRef (x : Ev) (H : AH) : Tryd.call 11 [x.av] H = some (.ok (.bool x.ok), H) := by
  refine ecall_flat 8 [] _ _ (out := [.bool x.ok]) rfl rfl rfl (views_agg x.flat (views_nil H 8)) rfl ?_
  obtain ⟨k, f, t, v, a, d, ft⟩ := x
  generalize hr : Ev.ok ⟨k, f, t, v, a, d, ft⟩ = r
  simp only [Ev.cells]
  simp only [Tryd.fn11, Tryd.fn11_r0, Tryd.fn11_r1, Tryd.fn11_r2, Tryd.fn11_r3, Tryd.fn11_r4, Tryd.fn11_r5, Tryd.fn11_r6, Tryd.fn11_r7, Tryd.fn11_r8, AmR, kp, pushA, exe, number, Arg.val, Env.at, lk, putd, AV.cells?, ok1, okM, AH.push, AH.get, abin, Option.getD_some, if_true, if_false, List.getElem?_cons_zero, List.getElem?_cons_succ, reduceCtorEq, Nat.reduceEqDiff, Nat.reduceAdd, Bool.false_eq_true, resAll, resOf, Option.some.injEq, List.cons.injEq, AV.bool.injEq, and_true, List.append_nil, Int.reduceNeg]
  subst hr
  simp only [Ev.ok]
  repeat' (first | apply And.intro | intro _)
  all_goals first
    | (refine (decide_eq_false ?_).symm; omega)
    | (rw [decide_eq_decide]; omega)

theorem Tryd.core (x : Ev) (H : AH) : Tryd.call 14 [x.av] H = some (.ok x.core.av, H) := by
  refine ecall_flat 8 [] _ _ (out := [x.core.av]) rfl rfl rfl (views_agg x.flat (views_nil H 8)) rfl ?_
  obtain ⟨k, f, t, v, a, d, ft⟩ := x
  simp only [Ev.cells, Ev.core, Ev.av]
  simp only [Tryd.fn14, Tryd.fn14_r0, Tryd.fn14_r1, Tryd.fn14_r2, AmR, kp, exe, number, Arg.val, Env.at, lk, putd, AV.cells?, ok1, okM, AH.push, AH.get, Option.getD_some, if_true, if_false, reduceCtorEq, Nat.reduceEqDiff, Nat.reduceAdd, Nat.reduceLT, Bool.false_eq_true, resAll, resOf, and_true, List.append_nil, Nat.reduceLeDiff, AH.cellsAt, AH.store, AH.put, rpl, putAt, solid, List.all_cons, List.all_nil, Bool.and_self, List.length_cons, List.length_nil, List.drop_zero, List.take_succ_cons, List.take_zero, Option.map_some, List.set_cons_zero, List.set_cons_succ]

theorem Tryd.coreRef (x : Ev) (H : AH) : Tryd.call 15 [x.av] H = some (.ok x.core.av, H) := by
  refine ecall_flat 8 [] _ _ (out := [x.core.av]) rfl rfl rfl (views_agg x.flat (views_nil H 8)) rfl ?_
  obtain ⟨k, f, t, v, a, d, ft⟩ := x
  simp only [Ev.cells, Ev.core, Ev.av]
  simp only [Tryd.fn15, Tryd.fn15_r0, Tryd.fn15_r1, Tryd.fn15_r2, Tryd.fn15_r3, AmR, kp, exe, number, Arg.val, Env.at, lk, putd, AV.cells?, ok1, okM, AH.push, AH.get, Option.getD_some, if_true, if_false, reduceCtorEq, Nat.reduceEqDiff, Nat.reduceAdd, Nat.reduceLT, Bool.false_eq_true, resAll, resOf, and_true, List.append_nil, Nat.reduceLeDiff, AH.cellsAt, AH.store, AH.put, rpl, putAt, solid, List.all_cons, List.all_nil, Bool.and_self, List.length_cons, List.length_nil, List.drop_zero, List.take_succ_cons, List.take_zero, Option.map_some, List.set_cons_zero, List.set_cons_succ]

def plainB (c : Int) : Bool := decide (32 ≤ c ∧ c ≤ 126 ∧ c ≠ 34 ∧ c ≠ 92)

theorem Tryd.plain (c : Int) (H : AH) : Tryd.call 52 [.int .i32 c] H = some (.ok (.bool (plainB c)), H) := by
  refine ecall_flat 8 [] _ _ (out := [.bool (plainB c)]) rfl rfl rfl (views_flat rfl (views_nil H 8)) rfl ?_
  generalize hr : plainB c = r
  simp only [Tryd.fn52, Tryd.fn52_r0, Tryd.fn52_r1, Tryd.fn52_r2, AmR, Rf_bne, kp, exe, number, Arg.val, Env.at, lk, putd, ok1, okM, abin, Option.getD_some, if_true, if_false, reduceCtorEq, Nat.reduceEqDiff, Bool.false_eq_true, resAll, resOf, Option.some.injEq, List.cons.injEq, AV.bool.injEq, and_true, List.append_nil]
  subst hr
  simp only [plainB]
  repeat' (first | apply And.intro | intro _)
  all_goals first
    | (refine (decide_eq_false ?_).symm; omega)
    | (refine (decide_eq_true ?_).symm; omega)
    | (rw [decide_eq_decide]; omega)
    | skip
  by_cases hc : c = 92
  · simp [hc]
  · have h1 : (c != 92) = true := by simp [hc]
    rw [h1]
    refine (decide_eq_true ?_).symm
    omega

end Go.Am
