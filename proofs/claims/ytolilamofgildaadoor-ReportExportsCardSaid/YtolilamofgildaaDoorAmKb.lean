/-
Contracts of the functions on single events, continued. Conditions: those that each theorem names.
-/
import Derived.Test.YtolilamofgildaaDoorAmKa
import Derived.IntWalk
set_option linter.unusedSimpArgs false
set_option linter.unusedVariables false
namespace Go.Am

theorem Tryd.validRef (x : Ev) (H : AH) : Tryd.call 48 [x.av] H = some (.ok (.bool x.ok), H) := by
  refine ecall_flat 6 [] _ _ (out := [.bool x.ok]) rfl rfl rfl (views_agg x.flat (views_nil H 6)) rfl ?_
  obtain ⟨k, f, t, v, a, d, ft⟩ := x
  generalize hr : Ev.ok ⟨k, f, t, v, a, d, ft⟩ = r
  simp only [Ev.cells]
  simp only [Tryd.fn48, Tryd.fn48_r0, Tryd.fn48_r1, Tryd.fn48_r2, Tryd.fn48_r3, Tryd.fn48_r4, Tryd.fn48_r5, Tryd.fn48_r6, Tryd.fn48_r7, Tryd.fn48_r8, AmR, kp, pushA, exe, number, Arg.val, Env.at, lk, putd, AV.cells?, ok1, okM, AH.push, AH.get, abin, Option.getD_some, if_true, if_false, List.getElem?_cons_zero, List.getElem?_cons_succ, reduceCtorEq, Nat.reduceEqDiff, Nat.reduceAdd, Bool.false_eq_true, resAll, resOf, Option.some.injEq, List.cons.injEq, AV.bool.injEq, and_true, List.append_nil, Int.reduceNeg]
  subst hr
  simp only [Ev.ok]
  repeat' (first | apply And.intro | intro _)
  all_goals first
    | (refine (decide_eq_false ?_).symm; omega)
    | (rw [decide_eq_decide]; omega)

def plainB (c : Int) : Bool := decide (32 ≤ c ∧ c ≤ 126 ∧ c ≠ 34 ∧ c ≠ 92)

theorem Tryd.plain (c : Int) (H : AH) : Tryd.call 59 [.int .i32 c] H = some (.ok (.bool (plainB c)), H) := by
  refine ecall_flat 6 [] _ _ (out := [.bool (plainB c)]) rfl rfl rfl (views_flat rfl (views_nil H 6)) rfl ?_
  generalize hr : plainB c = r
  simp only [Tryd.fn59, Tryd.fn59_r0, Tryd.fn59_r1, Tryd.fn59_r2, AmR, Rf_bne, kp, exe, number, Arg.val, Env.at, lk, putd, ok1, okM, abin, Option.getD_some, if_true, if_false, reduceCtorEq, Nat.reduceEqDiff, Bool.false_eq_true, resAll, resOf, Option.some.injEq, List.cons.injEq, AV.bool.injEq, and_true, List.append_nil]
  subst hr
  simp only [plainB]
  repeat' (first | apply And.intro | intro _)
  all_goals first
    | (refine (decide_eq_false ?_).symm; omega)
    | (refine (decide_eq_true ?_).symm; omega)
    | (rw [decide_eq_decide]; omega)
    | skip
  by_cases hc : c = 92
  · simp [hc]
  · have h1 : (c != 92) = true := by simp [hc]
    rw [h1]
    refine (decide_eq_true ?_).symm
    omega

end Go.Am
