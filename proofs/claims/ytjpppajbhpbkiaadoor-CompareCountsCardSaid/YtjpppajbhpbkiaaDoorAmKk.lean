/-
Keys of events, and the first law on the machine. Conditions: none.
-/
import Derived.Test.YtjpppajbhpbkiaaDoorAmKj
set_option linter.unusedSimpArgs false
set_option linter.unusedVariables false
namespace Go.Am

def keyL (x : Ev) : List UInt8 := if x.ok = true then lineL x.core else []

theorem Ev.core_ok {x : Ev} (h : x.ok = true) : x.core.ok = true := by
  rw [Ev.ok_iff] at h ⊢
  simp only [Ev.core]
  omega

theorem Tryd.key (x : Ev) (H : AH) : Tryd.call 7 [x.av] H = some (.ok (.str (keyL x)), H) := by
  refine ecall_flat 4 [] _ _ (out := [.str (keyL x)]) rfl rfl rfl (views_agg x.flat (views_nil H 4)) rfl ?_
  show W Tryd.call _ _ _ _ _
  have hv := Tryd.valid x
  have hc := Tryd.core x
  have hl := fun h H => Tryd.line x.core H h
  have hok := @Ev.core_ok x
  unfold keyL
  generalize x.ok = b at hv hok ⊢
  generalize lineL x.core = r at hl ⊢
  generalize x.core.av = cv at hc hl
  obtain ⟨k, f, t, v, a, d, ft⟩ := x
  simp only [Ev.av, Ev.cells] at hv hc ⊢
  cases b with
  | false =>
    simp only [Tryd.fn7, AmR, number, if_false, Bool.false_eq_true, List.append_nil]
    simp only [Tryd.fn7_r0, AmR, kp, exe, Arg.val, Env.at, lk, putd, AV.cells?, ok1, AH.push, Option.getD_some, if_true, if_false, reduceCtorEq, Nat.reduceEqDiff, Nat.reduceAdd]
    simp only [Tryd.fn7_r1, hv, AmR, kp, pushA, exe, Arg.val, Env.at, lk, putd, okM, AH.get, Option.getD_some, if_true, if_false, Bool.not_false, Nat.reduceEqDiff, Nat.reduceAdd, Nat.reduceLeDiff, aun, List.map_cons, List.map_nil, AH.cellsAt, List.length_cons, List.length_nil, List.drop_zero, List.take_succ_cons, List.take_zero, Option.map_some]
    simp only [Tryd.fn7_r2, AmR, kp, exe, Arg.val, Env.at, lk, putd, ok1, Option.getD_some, if_true, if_false, Nat.reduceEqDiff, resAll, resOf]
  | true =>
    have hl' := hl (hok rfl)
    simp only [Tryd.fn7, AmR, number, if_true, List.append_nil]
    simp only [Tryd.fn7_r0, AmR, kp, exe, Arg.val, Env.at, lk, putd, AV.cells?, ok1, AH.push, Option.getD_some, if_true, if_false, reduceCtorEq, Nat.reduceEqDiff, Nat.reduceAdd]
    simp only [Tryd.fn7_r1, hv, AmR, kp, pushA, exe, Arg.val, Env.at, lk, putd, okM, AH.get, Option.getD_some, if_true, if_false, Bool.not_true, Nat.reduceEqDiff, Nat.reduceAdd, Nat.reduceLeDiff, aun, List.map_cons, List.map_nil, AH.cellsAt, List.length_cons, List.length_nil, List.drop_zero, List.take_succ_cons, List.take_zero, Option.map_some]
    simp only [Tryd.fn7_r3, hc, hl', AmR, kp, exe, Arg.val, Env.at, lk, putd, ok1, okM, AH.get, Option.getD_some, if_true, if_false, List.getElem?_cons_zero, List.getElem?_cons_succ, Nat.reduceEqDiff, Nat.reduceAdd, Nat.reduceLeDiff, List.map_cons, List.map_nil, AH.cellsAt, List.length_cons, List.length_nil, List.drop_zero, List.take_succ_cons, List.take_zero, Option.map_some]
    simp only [Tryd.fn7_r4, AmR, kp, exe, Arg.val, Env.at, lk, putd, ok1, Option.getD_some, if_true, if_false, Nat.reduceEqDiff, resAll, resOf]

theorem Tryd.keyRef (x : Ev) (H : AH) : Tryd.call 8 [x.av] H = some (.ok (.str (keyL x)), H) := by
  refine ecall_flat 4 [] _ _ (out := [.str (keyL x)]) rfl rfl rfl (views_agg x.flat (views_nil H 4)) rfl ?_
  show W Tryd.call _ _ _ _ _
  have hv := Tryd.validRef x
  have hc := Tryd.coreRef x
  have hl := fun h H => Tryd.lineRef x.core H h
  have hok := @Ev.core_ok x
  unfold keyL
  generalize x.ok = b at hv hok ⊢
  generalize lineL x.core = r at hl ⊢
  generalize x.core.av = cv at hc hl
  obtain ⟨k, f, t, v, a, d, ft⟩ := x
  simp only [Ev.av, Ev.cells] at hv hc ⊢
  cases b with
  | false =>
    simp only [Tryd.fn8, AmR, number, if_false, Bool.false_eq_true, List.append_nil]
    simp only [Tryd.fn8_r0, AmR, kp, exe, Arg.val, Env.at, lk, putd, AV.cells?, ok1, AH.push, Option.getD_some, if_true, if_false, reduceCtorEq, Nat.reduceEqDiff, Nat.reduceAdd]
    simp only [Tryd.fn8_r1, hv, AmR, kp, pushA, exe, Arg.val, Env.at, lk, putd, okM, AH.get, Option.getD_some, if_true, if_false, Bool.not_false, Nat.reduceEqDiff, Nat.reduceAdd, Nat.reduceLeDiff, aun, List.map_cons, List.map_nil, AH.cellsAt, List.length_cons, List.length_nil, List.drop_zero, List.take_succ_cons, List.take_zero, Option.map_some]
    simp only [Tryd.fn8_r2, AmR, kp, exe, Arg.val, Env.at, lk, putd, ok1, Option.getD_some, if_true, if_false, Nat.reduceEqDiff, resAll, resOf]
  | true =>
    have hl' := hl (hok rfl)
    simp only [Tryd.fn8, AmR, number, if_true, List.append_nil]
    simp only [Tryd.fn8_r0, AmR, kp, exe, Arg.val, Env.at, lk, putd, AV.cells?, ok1, AH.push, Option.getD_some, if_true, if_false, reduceCtorEq, Nat.reduceEqDiff, Nat.reduceAdd]
    simp only [Tryd.fn8_r1, hv, AmR, kp, pushA, exe, Arg.val, Env.at, lk, putd, okM, AH.get, Option.getD_some, if_true, if_false, Bool.not_true, Nat.reduceEqDiff, Nat.reduceAdd, Nat.reduceLeDiff, aun, List.map_cons, List.map_nil, AH.cellsAt, List.length_cons, List.length_nil, List.drop_zero, List.take_succ_cons, List.take_zero, Option.map_some]
    simp only [Tryd.fn8_r3, hc, hl', AmR, kp, exe, Arg.val, Env.at, lk, putd, ok1, okM, AH.get, Option.getD_some, if_true, if_false, List.getElem?_cons_zero, List.getElem?_cons_succ, Nat.reduceEqDiff, Nat.reduceAdd, Nat.reduceLeDiff, List.map_cons, List.map_nil, AH.cellsAt, List.length_cons, List.length_nil, List.drop_zero, List.take_succ_cons, List.take_zero, Option.map_some]
    simp only [Tryd.fn8_r4, AmR, kp, exe, Arg.val, Env.at, lk, putd, ok1, Option.getD_some, if_true, if_false, Nat.reduceEqDiff, resAll, resOf]

theorem Tryd.awake (H : AH) : Tryd.call 9 [] H = some (.ok (.bool true), H) := ecall_of 4 [] _ _ (n := 100) (congrFun Tryd.awake_run H)

theorem Tryd.law3 (x : Ev) (H : AH) : Tryd.call 3 [x.av] H = some (.ok (.bool true), H) := by
  refine ecall_flat 4 [] _ _ (out := [.bool true]) rfl rfl rfl (views_agg x.flat (views_nil H 4)) rfl ?_
  show W Tryd.call _ _ _ _ _
  have h1 := Tryd.key x
  have h2 := Tryd.keyRef x
  have h3 := Tryd.awake
  generalize keyL x = r at h1 h2
  obtain ⟨k, f, t, v, a, d, ft⟩ := x
  simp only [Ev.av, Ev.cells] at h1 h2 ⊢
  simp only [Tryd.fn3, AmR, number, List.append_nil]
  simp only [Tryd.fn3_r0, AmR, kp, exe, Arg.val, Env.at, lk, putd, AV.cells?, ok1, AH.push, Option.getD_some, if_true, if_false, reduceCtorEq, Nat.reduceEqDiff, Nat.reduceAdd]
  refine W_drawn' (by kernel_rfl) ?_
  simp only [Tryd.fn3_r1, h1, h2, beq_self_eq_true, AmR, exe, Arg.val, Env.at, lk, putd, ok1, okM, AH.get, abin, Option.getD_some, if_true, if_false, Nat.reduceEqDiff, Nat.reduceAdd, true_and, List.nil_append, visH, List.filter_nil, List.flatMap_nil, List.contains_cons, List.contains_nil, Bool.or_false, Nat.reduceLeDiff, List.map_cons, List.map_nil, AH.cellsAt, List.length_cons, List.length_nil, List.drop_zero, List.take_succ_cons, List.take_zero, Option.map_some]
  simp only [Tryd.fn3_r1a, h3, AmR, kp, exe, Arg.val, Env.at, lk, putd, ok1, Option.getD_some, if_true, if_false, Nat.reduceEqDiff, Nat.reduceAdd, resAll, resOf, and_true, List.nil_append, visH, List.flatMap_nil, List.map_nil]

end Go.Am
