/-
EventParses and EventRoundTrips on the machine. Conditions: none.
-/
import Derived.Test.YtodonjfcaimgiaaDoorAmPi
import Derived.Test.YtodonjfcaimgiaaDoorAmLa
set_option linter.unusedSimpArgs false
set_option linter.unusedVariables false
namespace Go.Am

theorem parseR_shape (s : List UInt8) : ∃ (y : Ev) (c : Int), parseR s = [y.av, .int .i64 c] ∧ (c = 0 → y.ok = true ∧ lineL y = s) := by
  cases h : readL s with
  | none => exact ⟨evNil, 4, parseR_none h, fun h => absurd h (by decide)⟩
  | some x =>
    cases hx : x.ok with
    | true => exact ⟨x, 0, by rw [parseR_some h, hx, if_pos rfl], fun _ => ⟨hx, (readL_some h).1.symm⟩⟩
    | false => exact ⟨evNil, 2, by rw [parseR_some h, hx, if_neg (by decide)], fun h => absurd h (by decide)⟩

theorem parseR_line {x : Ev} (h : x.ok = true) : parseR (lineL x) = [x.av, .int .i64 0] := by
  have h' := h
  rw [Ev.ok_iff] at h'
  rw [parseR_some (readL_line quoteL_inj h'.1 h'.2.1), if_pos h]

theorem Tryd.lawParses (s : List UInt8) (H : AH) : Tryd.call 6 [.str s] H = some (.ok (.bool true), H) := by
  refine ecall_flat 8 [] _ _ (out := [.bool true]) rfl rfl rfl (views_flat rfl (views_nil H 8)) rfl ?_
  show W Tryd.call _ _ _ _ _
  have h3 := Tryd.awake
  simp only [Tryd.fn6, Tryd.fn6_r0, AmR, kp, exe, number, Arg.val, Env.at, lk, putd, ok1, Option.getD_some, if_true, if_false, reduceCtorEq, List.append_nil]
  simp only [Tryd.fn6_r1, AmR, kp, pushA, exe, Arg.val, Env.at, lk, putd, ok1, okM, abin, Option.getD_some, if_true, if_false, reduceCtorEq, Nat.reduceEqDiff]
  refine ⟨fun _ => ?_, fun hl => ?_⟩
  · simp only [Tryd.fn6_r2, h3, AmR, kp, exe, Arg.val, Env.at, lk, putd, ok1, Option.getD_some, if_true, if_false, reduceCtorEq, Nat.reduceEqDiff, resAll, resOf, List.map_nil]
  · obtain ⟨y, c, hp, _⟩ := parseR_shape s
    have h1 := Tryd.parse s (by omega)
    have h2 := Tryd.parseRef s (by omega)
    rw [hp] at h1 h2
    obtain ⟨k, f, t, v, a, d, ft⟩ := y
    simp only [pack, Ev.av, Ev.cells] at h1 h2
    simp only [Tryd.fn6_r3, h1, AmR, kp, exe, Arg.val, Env.at, lk, putd, AV.cells?, ok1, okM, AH.push, AH.get, Option.getD_some, if_true, if_false, List.getElem?_cons_zero, List.getElem?_cons_succ, reduceCtorEq, Nat.reduceEqDiff, Nat.reduceAdd, Nat.reduceLT, Bool.false_eq_true, and_true, Nat.reduceLeDiff, List.map_cons, List.map_nil, AH.store, AH.put, rpl, putAt, solid, List.all_cons, List.all_nil, Bool.and_self, List.length_cons, List.length_nil, Option.map_some, List.set_cons_zero, List.set_cons_succ]
    simp only [Tryd.fn6_r4, h2, AmR, kp, exe, Arg.val, Env.at, lk, putd, AV.cells?, ok1, okM, AH.push, AH.get, Option.getD_some, if_true, if_false, List.getElem?_cons_zero, List.getElem?_cons_succ, reduceCtorEq, Nat.reduceEqDiff, Nat.reduceAdd, Nat.reduceLT, Bool.false_eq_true, and_true, Nat.reduceLeDiff, List.map_cons, List.map_nil, AH.store, AH.put, rpl, putAt, solid, List.all_cons, List.all_nil, Bool.and_self, List.length_cons, List.length_nil, Option.map_some, List.set_cons_zero, List.set_cons_succ]
    simp only [Tryd.fn6_r5, aeqs, h3, beq_self_eq_true, AmR, kp, exe, Arg.val, Env.at, lk, putd, ok1, okM, AH.get, abin, Option.getD_some, if_true, if_false, List.getElem?_cons_zero, List.getElem?_cons_succ, Bool.not_false, Nat.reduceEqDiff, Nat.reduceAdd, Nat.reduceLeDiff, List.map_nil, AH.cellsAt, List.length_cons, List.length_nil, List.drop_zero, List.take_succ_cons, List.take_zero, Option.map_some, aeqv, aeq, Bool.true_bne]
    simp only [Tryd.fn6_r6, AmR, kp, exe, Arg.val, Env.at, lk, putd, ok1, Option.getD_some, if_true, if_false, Nat.reduceEqDiff, resAll, resOf]

theorem Tryd.lawTrips (x : Ev) (s : List UInt8) (H : AH) : Tryd.call 7 [x.av, .str s] H = some (.ok (.bool true), H) := by
  refine ecall_flat 8 [] _ _ (out := [.bool true]) rfl rfl rfl (views_agg x.flat (views_flat rfl (views_nil H 8))) rfl ?_
  show W Tryd.call _ _ _ _ _
  have h3 := Tryd.awake
  have hline := Tryd.lineAll x
  have hval := Tryd.valid x
  have hback : x.ok = true → ∀ H, Tryd.call 24 [.str (lineL x)] H = some (.ok (pack [x.av, .int .i64 0]), H) := fun h H => by
    have := Tryd.parse (lineL x) (by have := lineL_len x h; omega) H
    rw [parseR_line h] at this
    exact this
  unfold lineR lineE at hline
  generalize hok : x.ok = ok at hline hval hback
  generalize lineL x = line at hline hback
  obtain ⟨k, f, t, v, a, d, ft⟩ := x
  simp only [pack, Ev.av, Ev.cells] at hline hval hback ⊢
  simp only [Tryd.fn7, Tryd.fn7_r0, AmR, kp, exe, number, Arg.val, Env.at, lk, putd, AV.cells?, ok1, AH.push, Option.getD_some, if_true, if_false, reduceCtorEq, Nat.reduceEqDiff, Nat.reduceAdd, List.append_nil]
  by_cases hd : (d.length : Int) > 300
  · have d1 : decide ((d.length : Int) > 300) = true := decide_eq_true hd
    simp only [Tryd.fn7_r1, Tryd.fn7_r2, d1, h3, AmR, kp, pushA, exe, Arg.val, Env.at, lk, putd, ok1, okM, AH.get, abin, Option.getD_some, if_true, if_false, List.getElem?_cons_zero, List.getElem?_cons_succ, Nat.reduceEqDiff, Nat.reduceAdd, resAll, resOf, List.map_nil]
  have d1 : decide ((d.length : Int) > 300) = false := decide_eq_false hd
  simp only [Tryd.fn7_r1, d1, AmR, kp, pushA, exe, Arg.val, Env.at, lk, putd, ok1, okM, AH.get, abin, Option.getD_some, if_true, if_false, List.getElem?_cons_zero, List.getElem?_cons_succ, Nat.reduceEqDiff, Nat.reduceAdd, Bool.false_eq_true]
  refine ⟨fun _ => ?_, fun hl => ?_⟩
  · simp only [Tryd.fn7_r2, h3, AmR, kp, exe, Arg.val, Env.at, lk, putd, ok1, Option.getD_some, if_true, if_false, Nat.reduceEqDiff, resAll, resOf, List.map_nil]
  obtain ⟨y, c, hp, hc0⟩ := parseR_shape s
  have hps := Tryd.parse s (by omega)
  rw [hp] at hps
  have hyl : c = 0 → (∀ H, Tryd.call 22 [y.av] H = some (.ok (.tup [.str s, .int .i64 0]), H)) ∧ True := fun h => by
    obtain ⟨h1, h2⟩ := hc0 h
    refine ⟨fun H => ?_, trivial⟩
    have := Tryd.lineAll y H
    unfold lineR lineE at this
    rw [if_pos h1, if_pos h1, h2] at this
    exact this
  clear hp hc0
  obtain ⟨k', f', t', v', a', d', ft'⟩ := y
  simp only [pack, Ev.av, Ev.cells] at hps hyl
  cases ok with
  | false =>
    simp only [Bool.false_eq_true, if_false] at hline
    simp only [Tryd.fn7_r3, hline, AmR, kp, exe, Arg.val, Env.at, lk, putd, ok1, okM, AH.get, Option.getD_some, if_true, if_false, List.getElem?_cons_zero, List.getElem?_cons_succ, Nat.reduceEqDiff, Nat.reduceAdd, Nat.reduceLeDiff, List.map_cons, List.map_nil, AH.cellsAt, List.length_cons, List.length_nil, List.drop_zero, List.take_succ_cons, List.take_zero, Option.map_some]
    have e10 : ((1 : Int) == 0) = false := by decide
    simp only [Tryd.fn7_r4, hval, e10, AmR, Cd_bne, kp, pushA, exe, Arg.val, Env.at, lk, putd, ok1, okM, AH.get, abin, Option.getD_some, if_true, if_false, Nat.reduceEqDiff, Nat.reduceAdd, Nat.reduceLeDiff, List.map_cons, List.map_nil, AH.cellsAt, List.length_cons, List.length_nil, List.drop_zero, List.take_succ_cons, List.take_zero, Option.map_some, aeqv, aeq]
    refine ⟨fun _ => ?_, fun h => absurd rfl h⟩
    simp only [Tryd.fn7_r6, e10, AmR, kp, pushA, exe, Arg.val, Env.at, lk, putd, ok1, okM, abin, Option.getD_some, if_true, if_false, Nat.reduceEqDiff]
    simp only [Tryd.fn7_r10, hps, AmR, kp, exe, Arg.val, Env.at, lk, putd, AV.cells?, ok1, okM, AH.push, AH.get, Option.getD_some, if_true, if_false, List.getElem?_cons_zero, List.getElem?_cons_succ, Nat.reduceEqDiff, Nat.reduceAdd, Nat.reduceLT, Bool.false_eq_true, and_true, Nat.reduceLeDiff, List.map_cons, List.map_nil, AH.store, AH.put, rpl, putAt, solid, List.all_cons, List.all_nil, Bool.and_self, List.length_cons, List.length_nil, Option.map_some, List.set_cons_zero, List.set_cons_succ]
    by_cases hc : c = 0
    case neg =>
      have e1 : (c != 0) = true := by rw [bne_iff_ne]; exact hc
      simp only [Tryd.fn7_r11, Tryd.fn7_r12, e1, h3, AmR, kp, pushA, exe, Arg.val, Env.at, lk, putd, ok1, okM, abin, Option.getD_some, if_true, if_false, Nat.reduceEqDiff, resAll, resOf, List.map_nil]
    have e1 : (c != 0) = false := by rw [hc]; rfl
    obtain ⟨y1, y2⟩ := hyl hc
    simp only [Tryd.fn7_r11, e1, AmR, kp, pushA, exe, Arg.val, Env.at, lk, putd, ok1, okM, abin, Option.getD_some, if_true, if_false, Nat.reduceEqDiff]
    simp only [Tryd.fn7_r13, y1, AmR, kp, exe, Arg.val, Env.at, lk, putd, ok1, okM, AH.get, Option.getD_some, if_true, if_false, List.getElem?_cons_zero, List.getElem?_cons_succ, Nat.reduceEqDiff, Nat.reduceAdd, Nat.reduceLeDiff, List.map_cons, List.map_nil, AH.cellsAt, List.length_cons, List.length_nil, List.drop_zero, List.take_succ_cons, List.take_zero, Option.map_some]
    simp only [Tryd.fn7_r14, h3, beq_self_eq_true, AmR, kp, exe, Arg.val, Env.at, lk, putd, ok1, okM, abin, Option.getD_some, if_true, if_false, Nat.reduceEqDiff, List.map_nil]
    simp only [Tryd.fn7_r15, AmR, kp, exe, Arg.val, Env.at, lk, putd, ok1, Option.getD_some, if_true, if_false, Nat.reduceEqDiff, resAll, resOf]
  | true =>
    simp only [if_true] at hline
    have hb := hback rfl
    simp only [Tryd.fn7_r3, hline, AmR, kp, exe, Arg.val, Env.at, lk, putd, ok1, okM, AH.get, Option.getD_some, if_true, if_false, List.getElem?_cons_zero, List.getElem?_cons_succ, Nat.reduceEqDiff, Nat.reduceAdd, Nat.reduceLeDiff, List.map_cons, List.map_nil, AH.cellsAt, List.length_cons, List.length_nil, List.drop_zero, List.take_succ_cons, List.take_zero, Option.map_some]
    simp only [Tryd.fn7_r4, hval, beq_self_eq_true, AmR, kp, pushA, exe, Arg.val, Env.at, lk, putd, ok1, okM, AH.get, abin, Option.getD_some, if_true, if_false, Nat.reduceEqDiff, Nat.reduceAdd, Nat.reduceLeDiff, List.map_cons, List.map_nil, AH.cellsAt, List.length_cons, List.length_nil, List.drop_zero, List.take_succ_cons, List.take_zero, Option.map_some, aeqv, aeq, bne_self_eq_false]
    simp only [Tryd.fn7_r6, beq_self_eq_true, AmR, kp, pushA, exe, Arg.val, Env.at, lk, putd, ok1, okM, abin, Option.getD_some, if_true, if_false, Nat.reduceEqDiff]
    simp only [Tryd.fn7_r7, hb, AmR, kp, exe, Arg.val, Env.at, lk, putd, AV.cells?, ok1, okM, AH.push, AH.get, Option.getD_some, if_true, if_false, List.getElem?_cons_zero, List.getElem?_cons_succ, Nat.reduceEqDiff, Nat.reduceAdd, Nat.reduceLT, Bool.false_eq_true, and_true, Nat.reduceLeDiff, List.map_cons, List.map_nil, AH.store, AH.put, rpl, putAt, solid, List.all_cons, List.all_nil, Bool.and_self, List.length_cons, List.length_nil, Option.map_some, List.set_cons_zero, List.set_cons_succ]
    simp only [Tryd.fn7_r8, aeqs, beq_self_eq_true, AmR, kp, pushA, exe, Arg.val, Env.at, lk, putd, ok1, okM, AH.get, abin, Option.getD_some, if_true, if_false, List.getElem?_cons_zero, List.getElem?_cons_succ, Nat.reduceEqDiff, Nat.reduceAdd, Bool.false_eq_true, Nat.reduceLeDiff, AH.cellsAt, List.length_cons, List.length_nil, List.drop_zero, List.take_succ_cons, List.take_zero, Option.map_some, aeqv, aeq, bne_self_eq_false]
    simp only [Tryd.fn7_r10, hps, AmR, kp, exe, Arg.val, Env.at, lk, putd, AV.cells?, ok1, okM, AH.push, AH.get, Option.getD_some, if_true, if_false, List.getElem?_cons_zero, List.getElem?_cons_succ, Nat.reduceEqDiff, Nat.reduceAdd, Nat.reduceLT, Bool.false_eq_true, and_true, Nat.reduceLeDiff, List.map_cons, List.map_nil, AH.store, AH.put, rpl, putAt, solid, List.all_cons, List.all_nil, Bool.and_self, List.length_cons, List.length_nil, Option.map_some, List.set_cons_zero, List.set_cons_succ]
    by_cases hc : c = 0
    case neg =>
      have e1 : (c != 0) = true := by rw [bne_iff_ne]; exact hc
      simp only [Tryd.fn7_r11, Tryd.fn7_r12, e1, h3, AmR, kp, pushA, exe, Arg.val, Env.at, lk, putd, ok1, okM, abin, Option.getD_some, if_true, if_false, Nat.reduceEqDiff, resAll, resOf, List.map_nil]
    have e1 : (c != 0) = false := by rw [hc]; rfl
    obtain ⟨y1, y2⟩ := hyl hc
    simp only [Tryd.fn7_r11, e1, AmR, kp, pushA, exe, Arg.val, Env.at, lk, putd, ok1, okM, abin, Option.getD_some, if_true, if_false, Nat.reduceEqDiff]
    simp only [Tryd.fn7_r13, y1, AmR, kp, exe, Arg.val, Env.at, lk, putd, ok1, okM, AH.get, Option.getD_some, if_true, if_false, List.getElem?_cons_zero, List.getElem?_cons_succ, Nat.reduceEqDiff, Nat.reduceAdd, Nat.reduceLeDiff, List.map_cons, List.map_nil, AH.cellsAt, List.length_cons, List.length_nil, List.drop_zero, List.take_succ_cons, List.take_zero, Option.map_some]
    simp only [Tryd.fn7_r14, h3, beq_self_eq_true, AmR, kp, exe, Arg.val, Env.at, lk, putd, ok1, okM, abin, Option.getD_some, if_true, if_false, Nat.reduceEqDiff, List.map_nil]
    simp only [Tryd.fn7_r15, AmR, kp, exe, Arg.val, Env.at, lk, putd, ok1, Option.getD_some, if_true, if_false, Nat.reduceEqDiff, resAll, resOf]

end Go.Am
