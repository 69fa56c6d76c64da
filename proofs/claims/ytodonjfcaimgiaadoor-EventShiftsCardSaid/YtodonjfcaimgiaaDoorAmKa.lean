/-
Contracts of the functions on single events. Conditions: none.
-/
import Derived.Test.YtodonjfcaimgiaaDoorAmTab
import Derived.Test.YtodonjfcaimgiaaDoorMc
import Derived.Test.YtodonjfcaimgiaaDoorAmRun
set_option linter.unusedSimpArgs false
set_option linter.unusedVariables false
namespace Go.Am

noncomputable def Tryd.call : Call := ecall 8 [] (lk Tryd.ext) (lk Tryd.tab)

/-- An event. -/
structure Ev where
  k : Int
  f : Int
  t : Int
  v : Int
  a : Int
  d : List UInt8
  ft : Int
def Ev.cells (x : Ev) : List AV := [.int .i64 x.k, .int .i64 x.f, .int .i64 x.t, .int .i64 x.v, .int .i64 x.a, .str x.d, .int .i64 x.ft]
def Ev.av (x : Ev) : AV := .agg x.cells
def Ev.core (x : Ev) : Ev := { x with f := 0, t := 0 }

def Ev.ok (x : Ev) : Bool := decide (1 ≤ x.k ∧ x.k ≤ 8 ∧ 0 ≤ x.f ∧ x.f ≤ x.t ∧ x.t ≤ 1099511627776 ∧ -9007199254740992 ≤ x.v ∧ x.v ≤ 9007199254740992 ∧ -9007199254740992 ≤ x.a ∧ x.a ≤ 9007199254740992 ∧ (x.d.length : Int) ≤ 4096 ∧ 0 ≤ x.ft ∧ x.ft ≤ 12)

theorem Ev.flat (x : Ev) : x.cells.all flat1 = true := rfl

theorem Tryd.valid (x : Ev) (H : AH) : Tryd.call 10 [x.av] H = some (.ok (.bool x.ok), H) := by
  refine ecall_flat 8 [] _ _ (out := [.bool x.ok]) rfl rfl rfl (views_agg x.flat (views_nil H 8)) rfl ?_
  obtain ⟨k, f, t, v, a, d, ft⟩ := x
  generalize hr : Ev.ok ⟨k, f, t, v, a, d, ft⟩ = r
  simp only [Ev.cells]
  simp only [Tryd.fn10, Tryd.fn10_r0, Tryd.fn10_r1, Tryd.fn10_r2, Tryd.fn10_r3, Tryd.fn10_r4, Tryd.fn10_r5, Tryd.fn10_r6, Tryd.fn10_r7, Tryd.fn10_r8, Tryd.fn10_r9, Tryd.fn10_r10, AmR, Cd_beq, Cd_bne, Cd_nbeq, Rf_beq, Rf_bne, Rf_nbeq, Df_beq, Df_bne, Df_nbeq, kp, pushA, exe, number, Arg.val, Env.at, lk, putd, AV.cells?, ok1, okM, AH.push, AH.get, abin, Option.getD_some, if_true, if_false, List.getElem?_cons_zero, List.getElem?_cons_succ, Bool.not_true, Bool.not_false, reduceIte, reduceCtorEq, Nat.reduceEqDiff, Nat.reduceAdd, Nat.reduceMul, Nat.reduceLT, Nat.reduceSub, decide_true, decide_false, Bool.false_eq_true, Bool.true_eq_false, resAll, resOf, Option.some.injEq, List.cons.injEq, AV.bool.injEq, AV.int.injEq, AV.str.injEq, and_true, true_and, List.nil_append, List.append_nil, visH, List.filter_cons, List.filter_nil, List.flatMap_nil, List.flatMap_cons, List.contains_cons, List.contains_nil, Nat.reduceBEq, Bool.or_false, Bool.or_true, Bool.false_or, Bool.true_or, Nat.reduceLeDiff, aun, List.map_cons, List.map_nil, AH.cellsAt, AH.store, AH.put, rpl, putAt, solid, List.all_cons, List.all_nil, Bool.and_true, Bool.and_self, List.length_cons, List.length_nil, List.drop_zero, List.take_succ_cons, List.take_zero, List.drop_succ_cons, Option.map_some, Option.map_none, List.cons_append, afill, rep, flat1, flat2, Int.reduceEq, Int.reduceLT, Int.reduceLE, Int.reduceNeg, Int.reduceAdd, Int.reduceSub, Int.reduceMul, Int.reduceToNat, AV.sl.injEq, and_assoc, exists_eq_left, exists_eq_left', AH.take1, List.reduceReplicate, List.flatten_cons, List.flatten_nil, List.set_cons_zero, List.set_cons_succ, aeqv, aeq, Bool.false_bne, bne_self_eq_false, Bool.true_bne, Int.cast_ofNat_Int, Int.reduceGT, Int.reduceGE]
  subst hr
  simp only [Ev.ok]
  refine ⟨fun _ => ?_, fun _ => ⟨fun _ => ?_, fun _ => ⟨fun _ => ?_, fun _ => ⟨fun _ => ?_, fun _ => ⟨fun _ => ?_, fun _ => ⟨fun _ => ?_, fun _ => ⟨fun _ => ?_, fun _ => ⟨fun _ => ?_, fun _ => ⟨fun _ => ?_, fun _ => ?_⟩⟩⟩⟩⟩⟩⟩⟩⟩
  all_goals first
    | (refine (decide_eq_false ?_).symm; omega)
    | skip
  refine ⟨fun _ => ⟨fun _ => ?_, fun _ => ?_⟩, fun _ => ?_⟩
  · rw [decide_eq_decide]; omega
  · refine (decide_eq_false ?_).symm; omega
  · refine (decide_eq_false ?_).symm; omega

end Go.Am
