/-
Contracts of the functions on single events. Conditions: none.
-/
import Derived.Test.YtolilamofgildaaDoorAmC0
set_option linter.unusedSimpArgs false
set_option linter.unusedVariables false
namespace Go.Am

/-- An event. -/
structure Ev where
  k : Int
  f : Int
  t : Int
  v : Int
  a : Int
  d : List UInt8
  ft : Int
def Ev.cells (x : Ev) : List AV := [.int .i64 x.k, .int .i64 x.f, .int .i64 x.t, .int .i64 x.v, .int .i64 x.a, .str x.d, .int .i64 x.ft]
def Ev.av (x : Ev) : AV := .agg x.cells
def Ev.core (x : Ev) : Ev := { x with f := 0, t := 0 }

def Ev.ok (x : Ev) : Bool := decide (1 ≤ x.k ∧ x.k ≤ 8 ∧ 0 ≤ x.f ∧ x.f ≤ x.t ∧ x.t ≤ 1099511627776 ∧ -9007199254740992 ≤ x.v ∧ x.v ≤ 9007199254740992 ∧ -9007199254740992 ≤ x.a ∧ x.a ≤ 9007199254740992 ∧ (x.d.length : Int) ≤ 4096 ∧ 0 ≤ x.ft ∧ x.ft ≤ 12)

theorem Ev.flat (x : Ev) : x.cells.all flat1 = true := rfl

theorem Tryd.valid (x : Ev) (H : AH) : Tryd.call 43 [x.av] H = some (.ok (.bool x.ok), H) := by
  refine ecall_flat 6 [] _ _ (out := [.bool x.ok]) rfl rfl rfl (views_agg x.flat (views_nil H 6)) rfl ?_
  obtain ⟨k, f, t, v, a, d, ft⟩ := x
  generalize hr : Ev.ok ⟨k, f, t, v, a, d, ft⟩ = r
  simp only [Ev.cells]
  simp only [Tryd.fn43, Tryd.fn43_r0, Tryd.fn43_r1, Tryd.fn43_r2, Tryd.fn43_r3, Tryd.fn43_r4, Tryd.fn43_r5, Tryd.fn43_r6, Tryd.fn43_r7, Tryd.fn43_r8, Tryd.fn43_r9, Tryd.fn43_r10, AmR, kp, pushA, exe, number, Arg.val, Env.at, lk, putd, AV.cells?, ok1, okM, AH.push, AH.get, abin, Option.getD_some, if_true, if_false, List.getElem?_cons_zero, List.getElem?_cons_succ, reduceCtorEq, Nat.reduceEqDiff, Nat.reduceAdd, Bool.false_eq_true, resAll, resOf, Option.some.injEq, List.cons.injEq, AV.bool.injEq, and_true, List.append_nil, Int.reduceNeg]
  subst hr
  simp only [Ev.ok]
  refine ⟨fun _ => ?_, fun _ => ⟨fun _ => ?_, fun _ => ⟨fun _ => ?_, fun _ => ⟨fun _ => ?_, fun _ => ⟨fun _ => ?_, fun _ => ⟨fun _ => ?_, fun _ => ⟨fun _ => ?_, fun _ => ⟨fun _ => ?_, fun _ => ⟨fun _ => ?_, fun _ => ?_⟩⟩⟩⟩⟩⟩⟩⟩⟩
  all_goals first
    | (refine (decide_eq_false ?_).symm; omega)
    | skip
  refine ⟨fun _ => ⟨fun _ => ?_, fun _ => ?_⟩, fun _ => ?_⟩
  · rw [decide_eq_decide]; omega
  · refine (decide_eq_false ?_).symm; omega
  · refine (decide_eq_false ?_).symm; omega

end Go.Am
