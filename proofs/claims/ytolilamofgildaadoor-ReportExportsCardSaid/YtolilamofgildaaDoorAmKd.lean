/-
Contracts of the names of the kinds. Conditions: none.
-/
import Derived.Test.YtolilamofgildaaDoorAmKc
set_option linter.unusedSimpArgs false
set_option linter.unusedVariables false
namespace Go.Am

def kindNames : List (List UInt8) := [[108, 101, 118, 101, 108], [98, 105, 116], [98, 121, 116, 101], [109, 97, 114, 107], [102, 114, 97, 109, 101], [112, 97, 99, 107, 101, 116], [99, 111, 109, 109, 97, 110, 100], [112, 97, 105, 114]]
def kindBlk : Blk := ⟨kindNames.map .str, false, 9, true, true⟩

theorem Tryd.kinds (H : AH) : Tryd.call 44 [] H = some (.ok (.sl H.next 0 1 8 (some 8)), H.take1 kindBlk) := by
  refine ecall_slice 6 [] _ _ (b := kindBlk) (out := []) rfl rfl rfl (views_nil H 6) rfl rfl rfl ?_
  simp only [Tryd.fn44, Tryd.fn44_r0, Tryd.fn44_r1, AmR, kp, exe, number, Arg.val, Env.at, lk, putd, AV.cells?, ok1, AH.push, AH.get, Option.getD_some, if_true, if_false, reduceCtorEq, Nat.reduceAdd, resAll, resOf, Option.some.injEq, List.cons.injEq, and_true, true_and, List.nil_append, List.append_nil, Nat.reduceLeDiff, List.map_cons, List.map_nil, putAt, List.length_cons, List.length_nil, List.cons_append, afill, rep, AV.sl.injEq, exists_eq_left', List.reduceReplicate, List.flatten_cons, List.flatten_nil, List.set_cons_zero, List.set_cons_succ]
  rfl

theorem Tryd.names (H : AH) : Tryd.call 61 [] H = some (.ok (.sl H.next 0 1 8 (some 8)), H.take1 kindBlk) := by
  refine ecall_slice 6 [] _ _ (b := kindBlk) (out := []) rfl rfl rfl (views_nil H 6) rfl rfl rfl ?_
  simp only [Tryd.fn61, Tryd.fn61_r0, Tryd.fn61_r1, AmR, kp, exe, number, Arg.val, Env.at, lk, putd, AV.cells?, ok1, AH.push, AH.get, Option.getD_some, if_true, if_false, reduceCtorEq, Nat.reduceAdd, resAll, resOf, Option.some.injEq, List.cons.injEq, and_true, true_and, List.nil_append, List.append_nil, Nat.reduceLeDiff, List.map_cons, List.map_nil, putAt, List.length_cons, List.length_nil, List.cons_append, afill, rep, AV.sl.injEq, exists_eq_left', List.reduceReplicate, List.flatten_cons, List.flatten_nil, List.set_cons_zero, List.set_cons_succ]
  rfl

end Go.Am
