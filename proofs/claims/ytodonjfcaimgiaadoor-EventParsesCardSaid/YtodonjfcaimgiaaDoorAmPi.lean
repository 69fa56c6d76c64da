/-
Parse of the specification. Conditions: those that each theorem names.
-/
import Derived.Test.YtodonjfcaimgiaaDoorAmPh
set_option linter.unusedSimpArgs false
set_option linter.unusedVariables false
namespace Go.Am

theorem clamp_in {v : Int} (h : -9007199254740992 ≤ clampZ v ∧ clampZ v ≤ 9007199254740992) : clampZ v = v := by
  unfold clampZ at h ⊢
  split at h
  · omega
  · split at h
    · omega
    · rw [if_neg (by assumption), if_neg (by assumption)]
theorem clamp_of {v : Int} (h : -9007199254740992 ≤ v ∧ v ≤ 9007199254740992) : clampZ v = v := by
  unfold clampZ
  rw [if_neg (by omega), if_neg (by omega)]

theorem clamp_ok (k a b c e f : Int) (d : List UInt8) : (if Ev.ok ⟨k, a, b, c, e, d, f⟩ = true then [(⟨k, a, b, c, e, d, f⟩ : Ev).av, .int .i64 0] else [evNil.av, .int .i64 2]) = if Ev.ok ⟨k, clampZ a, clampZ b, clampZ c, clampZ e, d, clampZ f⟩ = true then [(⟨k, clampZ a, clampZ b, clampZ c, clampZ e, d, clampZ f⟩ : Ev).av, .int .i64 0] else [evNil.av, .int .i64 2] := by
  by_cases h : Ev.ok ⟨k, a, b, c, e, d, f⟩ = true
  · have h' := h
    rw [Ev.ok_iff] at h'
    dsimp only at h'
    rw [clamp_of (v := a) (by omega), clamp_of (v := b) (by omega), clamp_of (v := c) (by omega), clamp_of (v := e) (by omega), clamp_of (v := f) (by omega)]
  · rw [if_neg h]
    by_cases h2 : Ev.ok ⟨k, clampZ a, clampZ b, clampZ c, clampZ e, d, clampZ f⟩ = true
    · have h' := h2
      rw [Ev.ok_iff] at h'
      dsimp only at h'
      rw [clamp_in (v := a) (by omega), clamp_in (v := b) (by omega), clamp_in (v := c) (by omega), clamp_in (v := e) (by omega), clamp_in (v := f) (by omega)] at h2
      exact absurd h2 h
    · rw [if_neg h2]

theorem Tryd.unqRefU (w : List UInt8) (hw : w.length ≤ 1000000) : ∃ (r : List UInt8) (e : Int), (∀ H, Tryd.call 43 [.str w] H = some (.ok (.tup [.str r, .int .i64 e]), H)) ∧ r.length ≤ w.length ∧ ∀ d, w = quoteL d → r = d ∧ e = 0 := by
  obtain ⟨r, e, h1, h2⟩ := Tryd.unqRef w hw ⟨[], 8, 8⟩
  exact ⟨r, e, ecall_any (fn := Tryd.fn43) rfl rfl rfl (fun H => views_flat rfl (views_nil H 8)) h1, h2⟩
theorem Tryd.numRefU (w : List UInt8) (hw : w.length ≤ 1000000) : ∃ (n : Int) (is : Bool), (∀ H, Tryd.call 42 [.str w] H = some (.ok (.tup [.int .i64 n, .bool is]), H)) ∧ is = (numZ w).isSome ∧ ∀ v, numZ w = some v → n = clampZ v := by
  obtain ⟨n, is, h1, h2⟩ := Tryd.numRef w hw ⟨[], 8, 8⟩
  exact ⟨n, is, ecall_any (fn := Tryd.fn42) rfl rfl rfl (fun H => views_flat rfl (views_nil H 8)) h1, h2⟩

theorem readL_step {s w r : List UInt8} {k : Nat} (h1 : wordO s = some (w, r)) (h2 : idx w kindNames 0 = some k) : readL s = (numsL 5 r).bind fun q => (unqL q.2).bind fun d => match q.1 with
    | [a, b, c, e, f] => some ⟨(k : Int) + 1, a, b, c, e, d, f⟩
    | _ => none := by
  unfold readL
  rw [h1, Option.bind_some]
  dsimp only
  rw [h2, Option.bind_some]
  rfl

theorem Tryd.parseRef (s : List UInt8) (hs : s.length ≤ 100000) (H : AH) : Tryd.call 25 [.str s] H = some (.ok (pack (parseR s)), H) := by
  refine ecall_flat 8 [] _ _ (out := parseR s) rfl rfl rfl (views_flat rfl (views_nil H 8)) (by unfold parseR; split <;> (try split) <;> rfl) ?_
  show W Tryd.call _ _ _ _ _
  have hwd := Tryd.wordRef s (by omega)
  have fin4 : readL s = none → parseR s = [.agg [.int .i64 0, .int .i64 0, .int .i64 0, .int .i64 0, .int .i64 0, .str [], .int .i64 0], .int .i64 4] := parseR_none
  simp only [Tryd.fn25, Tryd.fn25_r0, AmR, kp, exe, number, Arg.val, Env.at, lk, putd, ok1, AH.push, Option.getD_some, if_true, if_false, reduceCtorEq, Nat.reduceEqDiff, Nat.reduceAdd, List.append_nil]
  simp only [Tryd.fn25_r1, hwd, AmR, exe, Arg.val, Env.at, lk, putd, ok1, okM, Option.getD_some, if_true, if_false, reduceCtorEq, Nat.reduceEqDiff, List.map_cons, List.map_nil]
  unfold wordR
  cases hw0 : wordO s with
  | none =>
    rw [fin4 (by unfold readL; rw [hw0]; rfl)]
    simp only [Tryd.fn25_r2, Tryd.fn25_r3, AmR, kp, pushA, exe, Arg.val, Env.at, lk, putd, AV.cells?, ok1, okM, AH.get, Option.getD_some, if_true, if_false, List.getElem?_cons_zero, List.getElem?_cons_succ, Bool.not_false, reduceCtorEq, Nat.reduceEqDiff, Nat.reduceAdd, Nat.reduceLT, Bool.false_eq_true, resAll, resOf, and_true, Nat.reduceLeDiff, aun, List.map_nil, AH.cellsAt, AH.store, AH.put, rpl, putAt, solid, List.all_cons, List.all_nil, Bool.and_self, List.length_cons, List.length_nil, List.drop_zero, List.take_succ_cons, List.take_zero, Option.map_some, afill, List.set_cons_zero, List.set_cons_succ]
  | some p =>
    obtain ⟨w0, r0⟩ := p
    have hl0 := wordO_len hw0
    have hkr := Tryd.kindRef w0
    cases hi : idx w0 kindNames 0 with
    | none =>
      have hz : kindZ none = 0 := rfl
      rw [hi, hz] at hkr
      rw [fin4 (by unfold readL; rw [hw0, Option.bind_some]; dsimp only; rw [hi]; rfl)]
      simp only [Tryd.fn25_r2, Tryd.fn25_r3, hkr, beq_self_eq_true, AmR, kp, pushA, exe, Arg.val, Env.at, lk, putd, AV.cells?, ok1, okM, AH.get, abin, Option.getD_some, if_true, if_false, List.getElem?_cons_zero, List.getElem?_cons_succ, Bool.not_true, reduceCtorEq, Nat.reduceEqDiff, Nat.reduceAdd, Nat.reduceLT, Bool.false_eq_true, resAll, resOf, and_true, Nat.reduceLeDiff, aun, List.map_cons, List.map_nil, AH.cellsAt, AH.store, AH.put, rpl, putAt, solid, List.all_cons, List.all_nil, Bool.and_self, List.length_cons, List.length_nil, List.drop_zero, List.take_succ_cons, List.take_zero, Option.map_some, afill, List.set_cons_zero, List.set_cons_succ]
    | some k =>
      have hk8 := (idx_kind hi).1
      have hz : kindZ (some k) = (k : Int) + 1 := rfl
      have hk0 : ((k : Int) + 1 == 0) = false := by rw [beq_eq_false_iff_ne]; omega
      rw [hi, hz] at hkr
      have hread := readL_step hw0 hi
      obtain ⟨L, hL⟩ : ∃ L, L = ACode.loop (some [2, 4, 5, 7, 8]) Tryd.fn25_l0 := ⟨_, rfl⟩
      simp only [Tryd.fn25_r2, hkr, hk0, AmR, kp, pushA, exe, Arg.val, Env.at, lk, putd, ok1, okM, abin, Option.getD_some, if_true, if_false, List.getElem?_cons_zero, List.getElem?_cons_succ, Bool.not_true, reduceCtorEq, Nat.reduceEqDiff, Bool.false_eq_true, aun, List.map_cons, List.map_nil]
      simp only [Tryd.fn25_r4, AmR, kp, exe, Arg.val, Env.at, lk, putd, ok1, AH.push, Option.getD_some, if_true, if_false, Nat.reduceEqDiff, Nat.reduceAdd, List.map_nil, afill, rep, List.reduceReplicate, List.flatten_nil]
      simp only [Tryd.fn25_r5, AmR, kp, exe, Arg.val, Env.at, lk, putd, ok1, Option.getD_some, if_true, if_false, Nat.reduceEqDiff]
      rw [← hL]
      have q1 : IntKind.i64.wrap (1 : Int) = 1 := by decide
      have q2 : IntKind.i64.wrap (2 : Int) = 2 := by decide
      have q3 : IntKind.i64.wrap (3 : Int) = 3 := by decide
      have q4 : IntKind.i64.wrap (4 : Int) = 4 := by decide
      have q5 : IntKind.i64.wrap (5 : Int) = 5 := by decide
      -- the number 1
      refine W_loopN hL ?_
      have hwd1 := Tryd.wordRef r0 (by omega)
      simp only [Tryd.fn25_l0, Tryd.fn25_r6, AmR, kp, pushA, exe, Arg.val, Env.at, lk, putd, ok1, okM, abin, Option.getD_some, if_true, if_false, Nat.reduceEqDiff, decide_true, Int.reduceLT]
      simp only [Tryd.fn25_r7, hwd1, AmR, exe, Arg.val, Env.at, lk, putd, ok1, okM, Option.getD_some, if_true, if_false, Nat.reduceEqDiff, List.map_cons, List.map_nil]
      unfold wordR
      cases hw1 : wordO r0 with
      | none =>
        obtain ⟨n1, i1, hn1, hs1, hv1⟩ := Tryd.numRefU [] (by decide)
        rw [fin4 (by rw [hread]; simp only [numsL, hw1, Option.bind_none])]
        simp only [Tryd.fn25_r8, hn1, Tryd.fn25_r9, Tryd.fn25_r10, AmR, kp, pushA, exe, Arg.val, Env.at, lk, putd, AV.cells?, ok1, okM, AH.get, Option.getD_some, if_true, if_false, List.getElem?_cons_zero, List.getElem?_cons_succ, Bool.not_false, Nat.reduceEqDiff, Nat.reduceAdd, Nat.reduceLT, Bool.false_eq_true, resAll, resOf, and_true, Nat.reduceLeDiff, aun, List.map_cons, List.map_nil, AH.cellsAt, AH.store, AH.put, rpl, putAt, solid, List.all_cons, List.all_nil, Bool.and_self, List.length_cons, List.length_nil, List.drop_zero, List.take_succ_cons, List.take_zero, Option.map_some, afill, List.set_cons_zero, List.set_cons_succ]
      | some p =>
      obtain ⟨w1, r1⟩ := p
      have hl1 := wordO_len hw1
      obtain ⟨n1, i1, hn1, hs1, hv1⟩ := Tryd.numRefU w1 (by omega)
      simp only [Tryd.fn25_r8, hn1, AmR, kp, exe, Arg.val, Env.at, lk, putd, ok1, okM, Option.getD_some, if_true, if_false, List.getElem?_cons_zero, List.getElem?_cons_succ, Nat.reduceEqDiff, List.map_cons, List.map_nil]
      cases hz1 : numZ w1 with
      | none =>
        rw [hz1] at hs1
        rw [fin4 (by rw [hread]; simp only [numsL, hw1, hz1, Option.bind_some, Option.bind_none])]
        simp only [Tryd.fn25_r9, Tryd.fn25_r10, hs1, Option.isSome_none, AmR, kp, pushA, exe, Arg.val, Env.at, lk, putd, AV.cells?, ok1, okM, AH.get, Option.getD_some, if_true, if_false, Bool.not_true, Bool.not_false, Nat.reduceEqDiff, Nat.reduceAdd, Nat.reduceLT, Bool.false_eq_true, resAll, resOf, and_true, Nat.reduceLeDiff, aun, List.map_nil, AH.cellsAt, AH.store, AH.put, rpl, putAt, solid, List.all_cons, List.all_nil, Bool.and_self, List.length_cons, List.length_nil, List.drop_zero, List.take_succ_cons, List.take_zero, Option.map_some, afill, List.set_cons_zero, List.set_cons_succ]
      | some v1 =>
      rw [hz1] at hs1
      obtain rfl := hv1 v1 hz1
      simp only [Tryd.fn25_r9, hs1, Option.isSome_some, AmR, kp, pushA, exe, Arg.val, Env.at, lk, putd, ok1, okM, Option.getD_some, if_true, if_false, Bool.not_true, Nat.reduceEqDiff, Bool.false_eq_true, aun]
      simp only [Tryd.fn25_r11, takeFrom, aapp, AH.turn, del, not_false_eq_true, Nat.reduceDiv, Nat.reduceMod, and_self, Nat.le_refl, AmR, kp, exe, Arg.val, Env.at, lk, putd, AV.cells?, ok1, AH.push, AH.get, Option.getD_some, if_true, if_false, reduceCtorEq, Nat.reduceEqDiff, Nat.reduceAdd, Nat.reduceMul, Bool.true_eq_false, List.nil_append, List.append_nil, Nat.reduceBEq, Nat.reduceLeDiff, List.map_cons, List.map_nil, AH.cellsAt, putAt, solid, List.all_cons, List.all_nil, Bool.and_self, List.length_cons, List.length_nil, List.drop_zero, List.take_succ_cons, List.take_zero, afill, rep, List.reduceReplicate, List.flatten_cons, List.flatten_nil, List.set_cons_zero]
      simp only [Tryd.fn25_r12, AmR, kp, exe, Arg.val, Env.at, lk, putd, ok1, Option.getD_some, if_true, if_false, Nat.reduceEqDiff]
      simp only [Tryd.fn25_r13, q1, AmR, kp, exe, Arg.val, Env.at, lk, putd, ok1, okM, abin, Option.getD_some, if_true, if_false, Nat.reduceEqDiff, Int.reduceAdd]
      -- the number 2
      refine W_loopN hL ?_
      have hwd2 := Tryd.wordRef r1 (by omega)
      simp only [Tryd.fn25_l0, Tryd.fn25_r6, AmR, kp, pushA, exe, Arg.val, Env.at, lk, putd, ok1, okM, abin, Option.getD_some, if_true, if_false, Nat.reduceEqDiff, decide_true, Int.reduceLT]
      simp only [Tryd.fn25_r7, hwd2, AmR, exe, Arg.val, Env.at, lk, putd, ok1, okM, Option.getD_some, if_true, if_false, Nat.reduceEqDiff, List.map_cons, List.map_nil]
      unfold wordR
      cases hw2 : wordO r1 with
      | none =>
        obtain ⟨n2, i2, hn2, hs2, hv2⟩ := Tryd.numRefU [] (by decide)
        rw [fin4 (by rw [hread]; simp only [numsL, hw1, hz1, hw2, Option.bind_some, Option.bind_none, Option.map_none])]
        simp only [Tryd.fn25_r8, hn2, Tryd.fn25_r9, Tryd.fn25_r10, AmR, kp, pushA, exe, Arg.val, Env.at, lk, putd, AV.cells?, ok1, okM, AH.get, Option.getD_some, if_true, if_false, List.getElem?_cons_zero, List.getElem?_cons_succ, Bool.not_false, Nat.reduceEqDiff, Nat.reduceAdd, Nat.reduceLT, Bool.false_eq_true, resAll, resOf, and_true, Nat.reduceLeDiff, aun, List.map_cons, List.map_nil, AH.cellsAt, AH.store, AH.put, rpl, putAt, solid, List.all_cons, List.all_nil, Bool.and_self, List.length_cons, List.length_nil, List.drop_zero, List.take_succ_cons, List.take_zero, Option.map_some, afill, List.set_cons_zero, List.set_cons_succ]
      | some p =>
      obtain ⟨w2, r2⟩ := p
      have hl2 := wordO_len hw2
      obtain ⟨n2, i2, hn2, hs2, hv2⟩ := Tryd.numRefU w2 (by omega)
      simp only [Tryd.fn25_r8, hn2, AmR, kp, exe, Arg.val, Env.at, lk, putd, ok1, okM, Option.getD_some, if_true, if_false, List.getElem?_cons_zero, List.getElem?_cons_succ, Nat.reduceEqDiff, List.map_cons, List.map_nil]
      cases hz2 : numZ w2 with
      | none =>
        rw [hz2] at hs2
        rw [fin4 (by rw [hread]; simp only [numsL, hw1, hz1, hw2, hz2, Option.bind_some, Option.bind_none, Option.map_none])]
        simp only [Tryd.fn25_r9, Tryd.fn25_r10, hs2, Option.isSome_none, AmR, kp, pushA, exe, Arg.val, Env.at, lk, putd, AV.cells?, ok1, okM, AH.get, Option.getD_some, if_true, if_false, Bool.not_true, Bool.not_false, Nat.reduceEqDiff, Nat.reduceAdd, Nat.reduceLT, Bool.false_eq_true, resAll, resOf, and_true, Nat.reduceLeDiff, aun, List.map_nil, AH.cellsAt, AH.store, AH.put, rpl, putAt, solid, List.all_cons, List.all_nil, Bool.and_self, List.length_cons, List.length_nil, List.drop_zero, List.take_succ_cons, List.take_zero, Option.map_some, afill, List.set_cons_zero, List.set_cons_succ]
      | some v2 =>
      rw [hz2] at hs2
      obtain rfl := hv2 v2 hz2
      simp only [Tryd.fn25_r9, hs2, Option.isSome_some, AmR, kp, pushA, exe, Arg.val, Env.at, lk, putd, ok1, okM, Option.getD_some, if_true, if_false, Bool.not_true, Nat.reduceEqDiff, Bool.false_eq_true, aun]
      simp only [Tryd.fn25_r11, takeFrom, aapp, AH.turn, del, not_false_eq_true, Nat.reduceDiv, Nat.reduceMod, and_self, Nat.le_refl, AmR, kp, exe, Arg.val, Env.at, lk, putd, AV.cells?, ok1, AH.push, AH.get, Option.getD_some, if_true, if_false, reduceCtorEq, Nat.reduceEqDiff, Nat.reduceAdd, Nat.reduceMul, Bool.true_eq_false, List.nil_append, List.append_nil, Nat.reduceBEq, Nat.reduceLeDiff, List.map_cons, List.map_nil, AH.cellsAt, putAt, solid, List.all_cons, List.all_nil, Bool.and_self, List.length_cons, List.length_nil, List.drop_zero, List.take_succ_cons, List.take_zero, List.cons_append, afill, rep, List.reduceReplicate, List.flatten_cons, List.flatten_nil, List.set_cons_zero]
      simp only [Tryd.fn25_r12, AmR, kp, exe, Arg.val, Env.at, lk, putd, ok1, Option.getD_some, if_true, if_false, Nat.reduceEqDiff]
      simp only [Tryd.fn25_r13, q2, AmR, kp, exe, Arg.val, Env.at, lk, putd, ok1, okM, abin, Option.getD_some, if_true, if_false, Nat.reduceEqDiff, Int.reduceAdd]
      -- the number 3
      refine W_loopN hL ?_
      have hwd3 := Tryd.wordRef r2 (by omega)
      simp only [Tryd.fn25_l0, Tryd.fn25_r6, AmR, kp, pushA, exe, Arg.val, Env.at, lk, putd, ok1, okM, abin, Option.getD_some, if_true, if_false, Nat.reduceEqDiff, decide_true, Int.reduceLT]
      simp only [Tryd.fn25_r7, hwd3, AmR, exe, Arg.val, Env.at, lk, putd, ok1, okM, Option.getD_some, if_true, if_false, Nat.reduceEqDiff, List.map_cons, List.map_nil]
      unfold wordR
      cases hw3 : wordO r2 with
      | none =>
        obtain ⟨n3, i3, hn3, hs3, hv3⟩ := Tryd.numRefU [] (by decide)
        rw [fin4 (by rw [hread]; simp only [numsL, hw1, hz1, hw2, hz2, hw3, Option.bind_some, Option.bind_none, Option.map_none])]
        simp only [Tryd.fn25_r8, hn3, Tryd.fn25_r9, Tryd.fn25_r10, AmR, kp, pushA, exe, Arg.val, Env.at, lk, putd, AV.cells?, ok1, okM, AH.get, Option.getD_some, if_true, if_false, List.getElem?_cons_zero, List.getElem?_cons_succ, Bool.not_false, Nat.reduceEqDiff, Nat.reduceAdd, Nat.reduceLT, Bool.false_eq_true, resAll, resOf, and_true, Nat.reduceLeDiff, aun, List.map_cons, List.map_nil, AH.cellsAt, AH.store, AH.put, rpl, putAt, solid, List.all_cons, List.all_nil, Bool.and_self, List.length_cons, List.length_nil, List.drop_zero, List.take_succ_cons, List.take_zero, Option.map_some, afill, List.set_cons_zero, List.set_cons_succ]
      | some p =>
      obtain ⟨w3, r3⟩ := p
      have hl3 := wordO_len hw3
      obtain ⟨n3, i3, hn3, hs3, hv3⟩ := Tryd.numRefU w3 (by omega)
      simp only [Tryd.fn25_r8, hn3, AmR, kp, exe, Arg.val, Env.at, lk, putd, ok1, okM, Option.getD_some, if_true, if_false, List.getElem?_cons_zero, List.getElem?_cons_succ, Nat.reduceEqDiff, List.map_cons, List.map_nil]
      cases hz3 : numZ w3 with
      | none =>
        rw [hz3] at hs3
        rw [fin4 (by rw [hread]; simp only [numsL, hw1, hz1, hw2, hz2, hw3, hz3, Option.bind_some, Option.bind_none, Option.map_none])]
        simp only [Tryd.fn25_r9, Tryd.fn25_r10, hs3, Option.isSome_none, AmR, kp, pushA, exe, Arg.val, Env.at, lk, putd, AV.cells?, ok1, okM, AH.get, Option.getD_some, if_true, if_false, Bool.not_true, Bool.not_false, Nat.reduceEqDiff, Nat.reduceAdd, Nat.reduceLT, Bool.false_eq_true, resAll, resOf, and_true, Nat.reduceLeDiff, aun, List.map_nil, AH.cellsAt, AH.store, AH.put, rpl, putAt, solid, List.all_cons, List.all_nil, Bool.and_self, List.length_cons, List.length_nil, List.drop_zero, List.take_succ_cons, List.take_zero, Option.map_some, afill, List.set_cons_zero, List.set_cons_succ]
      | some v3 =>
      rw [hz3] at hs3
      obtain rfl := hv3 v3 hz3
      simp only [Tryd.fn25_r9, hs3, Option.isSome_some, AmR, kp, pushA, exe, Arg.val, Env.at, lk, putd, ok1, okM, Option.getD_some, if_true, if_false, Bool.not_true, Nat.reduceEqDiff, Bool.false_eq_true, aun]
      simp only [Tryd.fn25_r11, takeFrom, aapp, AH.turn, del, not_false_eq_true, Nat.reduceDiv, Nat.reduceMod, and_self, Nat.le_refl, AmR, kp, exe, Arg.val, Env.at, lk, putd, AV.cells?, ok1, AH.push, AH.get, Option.getD_some, if_true, if_false, reduceCtorEq, Nat.reduceEqDiff, Nat.reduceAdd, Nat.reduceMul, Bool.true_eq_false, List.nil_append, List.append_nil, Nat.reduceBEq, Nat.reduceLeDiff, List.map_cons, List.map_nil, AH.cellsAt, putAt, solid, List.all_cons, List.all_nil, Bool.and_self, List.length_cons, List.length_nil, List.drop_zero, List.take_succ_cons, List.take_zero, List.cons_append, afill, rep, List.reduceReplicate, List.flatten_cons, List.flatten_nil, List.set_cons_zero]
      simp only [Tryd.fn25_r12, AmR, kp, exe, Arg.val, Env.at, lk, putd, ok1, Option.getD_some, if_true, if_false, Nat.reduceEqDiff]
      simp only [Tryd.fn25_r13, q3, AmR, kp, exe, Arg.val, Env.at, lk, putd, ok1, okM, abin, Option.getD_some, if_true, if_false, Nat.reduceEqDiff, Int.reduceAdd]
      -- the number 4
      refine W_loopN hL ?_
      have hwd4 := Tryd.wordRef r3 (by omega)
      simp only [Tryd.fn25_l0, Tryd.fn25_r6, AmR, kp, pushA, exe, Arg.val, Env.at, lk, putd, ok1, okM, abin, Option.getD_some, if_true, if_false, Nat.reduceEqDiff, decide_true, Int.reduceLT]
      simp only [Tryd.fn25_r7, hwd4, AmR, exe, Arg.val, Env.at, lk, putd, ok1, okM, Option.getD_some, if_true, if_false, Nat.reduceEqDiff, List.map_cons, List.map_nil]
      unfold wordR
      cases hw4 : wordO r3 with
      | none =>
        obtain ⟨n4, i4, hn4, hs4, hv4⟩ := Tryd.numRefU [] (by decide)
        rw [fin4 (by rw [hread]; simp only [numsL, hw1, hz1, hw2, hz2, hw3, hz3, hw4, Option.bind_some, Option.bind_none, Option.map_none])]
        simp only [Tryd.fn25_r8, hn4, Tryd.fn25_r9, Tryd.fn25_r10, AmR, kp, pushA, exe, Arg.val, Env.at, lk, putd, AV.cells?, ok1, okM, AH.get, Option.getD_some, if_true, if_false, List.getElem?_cons_zero, List.getElem?_cons_succ, Bool.not_false, Nat.reduceEqDiff, Nat.reduceAdd, Nat.reduceLT, Bool.false_eq_true, resAll, resOf, and_true, Nat.reduceLeDiff, aun, List.map_cons, List.map_nil, AH.cellsAt, AH.store, AH.put, rpl, putAt, solid, List.all_cons, List.all_nil, Bool.and_self, List.length_cons, List.length_nil, List.drop_zero, List.take_succ_cons, List.take_zero, Option.map_some, afill, List.set_cons_zero, List.set_cons_succ]
      | some p =>
      obtain ⟨w4, r4⟩ := p
      have hl4 := wordO_len hw4
      obtain ⟨n4, i4, hn4, hs4, hv4⟩ := Tryd.numRefU w4 (by omega)
      simp only [Tryd.fn25_r8, hn4, AmR, kp, exe, Arg.val, Env.at, lk, putd, ok1, okM, Option.getD_some, if_true, if_false, List.getElem?_cons_zero, List.getElem?_cons_succ, Nat.reduceEqDiff, List.map_cons, List.map_nil]
      cases hz4 : numZ w4 with
      | none =>
        rw [hz4] at hs4
        rw [fin4 (by rw [hread]; simp only [numsL, hw1, hz1, hw2, hz2, hw3, hz3, hw4, hz4, Option.bind_some, Option.bind_none, Option.map_none])]
        simp only [Tryd.fn25_r9, Tryd.fn25_r10, hs4, Option.isSome_none, AmR, kp, pushA, exe, Arg.val, Env.at, lk, putd, AV.cells?, ok1, okM, AH.get, Option.getD_some, if_true, if_false, Bool.not_true, Bool.not_false, Nat.reduceEqDiff, Nat.reduceAdd, Nat.reduceLT, Bool.false_eq_true, resAll, resOf, and_true, Nat.reduceLeDiff, aun, List.map_nil, AH.cellsAt, AH.store, AH.put, rpl, putAt, solid, List.all_cons, List.all_nil, Bool.and_self, List.length_cons, List.length_nil, List.drop_zero, List.take_succ_cons, List.take_zero, Option.map_some, afill, List.set_cons_zero, List.set_cons_succ]
      | some v4 =>
      rw [hz4] at hs4
      obtain rfl := hv4 v4 hz4
      simp only [Tryd.fn25_r9, hs4, Option.isSome_some, AmR, kp, pushA, exe, Arg.val, Env.at, lk, putd, ok1, okM, Option.getD_some, if_true, if_false, Bool.not_true, Nat.reduceEqDiff, Bool.false_eq_true, aun]
      simp only [Tryd.fn25_r11, takeFrom, aapp, AH.turn, del, not_false_eq_true, Nat.reduceDiv, Nat.reduceMod, and_self, Nat.le_refl, AmR, kp, exe, Arg.val, Env.at, lk, putd, AV.cells?, ok1, AH.push, AH.get, Option.getD_some, if_true, if_false, reduceCtorEq, Nat.reduceEqDiff, Nat.reduceAdd, Nat.reduceMul, Bool.true_eq_false, List.nil_append, List.append_nil, Nat.reduceBEq, Nat.reduceLeDiff, List.map_cons, List.map_nil, AH.cellsAt, putAt, solid, List.all_cons, List.all_nil, Bool.and_self, List.length_cons, List.length_nil, List.drop_zero, List.take_succ_cons, List.take_zero, List.cons_append, afill, rep, List.reduceReplicate, List.flatten_cons, List.flatten_nil, List.set_cons_zero]
      simp only [Tryd.fn25_r12, AmR, kp, exe, Arg.val, Env.at, lk, putd, ok1, Option.getD_some, if_true, if_false, Nat.reduceEqDiff]
      simp only [Tryd.fn25_r13, q4, AmR, kp, exe, Arg.val, Env.at, lk, putd, ok1, okM, abin, Option.getD_some, if_true, if_false, Nat.reduceEqDiff, Int.reduceAdd]
      -- the number 5
      refine W_loopN hL ?_
      have hwd5 := Tryd.wordRef r4 (by omega)
      simp only [Tryd.fn25_l0, Tryd.fn25_r6, AmR, kp, pushA, exe, Arg.val, Env.at, lk, putd, ok1, okM, abin, Option.getD_some, if_true, if_false, Nat.reduceEqDiff, decide_true, Int.reduceLT]
      simp only [Tryd.fn25_r7, hwd5, AmR, exe, Arg.val, Env.at, lk, putd, ok1, okM, Option.getD_some, if_true, if_false, Nat.reduceEqDiff, List.map_cons, List.map_nil]
      unfold wordR
      cases hw5 : wordO r4 with
      | none =>
        obtain ⟨n5, i5, hn5, hs5, hv5⟩ := Tryd.numRefU [] (by decide)
        rw [fin4 (by rw [hread]; simp only [numsL, hw1, hz1, hw2, hz2, hw3, hz3, hw4, hz4, hw5, Option.bind_some, Option.bind_none, Option.map_none])]
        simp only [Tryd.fn25_r8, hn5, Tryd.fn25_r9, Tryd.fn25_r10, AmR, kp, pushA, exe, Arg.val, Env.at, lk, putd, AV.cells?, ok1, okM, AH.get, Option.getD_some, if_true, if_false, List.getElem?_cons_zero, List.getElem?_cons_succ, Bool.not_false, Nat.reduceEqDiff, Nat.reduceAdd, Nat.reduceLT, Bool.false_eq_true, resAll, resOf, and_true, Nat.reduceLeDiff, aun, List.map_cons, List.map_nil, AH.cellsAt, AH.store, AH.put, rpl, putAt, solid, List.all_cons, List.all_nil, Bool.and_self, List.length_cons, List.length_nil, List.drop_zero, List.take_succ_cons, List.take_zero, Option.map_some, afill, List.set_cons_zero, List.set_cons_succ]
      | some p =>
      obtain ⟨w5, r5⟩ := p
      have hl5 := wordO_len hw5
      obtain ⟨n5, i5, hn5, hs5, hv5⟩ := Tryd.numRefU w5 (by omega)
      simp only [Tryd.fn25_r8, hn5, AmR, kp, exe, Arg.val, Env.at, lk, putd, ok1, okM, Option.getD_some, if_true, if_false, List.getElem?_cons_zero, List.getElem?_cons_succ, Nat.reduceEqDiff, List.map_cons, List.map_nil]
      cases hz5 : numZ w5 with
      | none =>
        rw [hz5] at hs5
        rw [fin4 (by rw [hread]; simp only [numsL, hw1, hz1, hw2, hz2, hw3, hz3, hw4, hz4, hw5, hz5, Option.bind_some, Option.bind_none, Option.map_none])]
        simp only [Tryd.fn25_r9, Tryd.fn25_r10, hs5, Option.isSome_none, AmR, kp, pushA, exe, Arg.val, Env.at, lk, putd, AV.cells?, ok1, okM, AH.get, Option.getD_some, if_true, if_false, Bool.not_true, Bool.not_false, Nat.reduceEqDiff, Nat.reduceAdd, Nat.reduceLT, Bool.false_eq_true, resAll, resOf, and_true, Nat.reduceLeDiff, aun, List.map_nil, AH.cellsAt, AH.store, AH.put, rpl, putAt, solid, List.all_cons, List.all_nil, Bool.and_self, List.length_cons, List.length_nil, List.drop_zero, List.take_succ_cons, List.take_zero, Option.map_some, afill, List.set_cons_zero, List.set_cons_succ]
      | some v5 =>
      rw [hz5] at hs5
      obtain rfl := hv5 v5 hz5
      simp only [Tryd.fn25_r9, hs5, Option.isSome_some, AmR, kp, pushA, exe, Arg.val, Env.at, lk, putd, ok1, okM, Option.getD_some, if_true, if_false, Bool.not_true, Nat.reduceEqDiff, Bool.false_eq_true, aun]
      simp only [Tryd.fn25_r11, takeFrom, aapp, AH.turn, del, not_false_eq_true, Nat.reduceDiv, Nat.reduceMod, and_self, Nat.le_refl, AmR, kp, exe, Arg.val, Env.at, lk, putd, AV.cells?, ok1, AH.push, AH.get, Option.getD_some, if_true, if_false, reduceCtorEq, Nat.reduceEqDiff, Nat.reduceAdd, Nat.reduceMul, Bool.true_eq_false, List.nil_append, List.append_nil, Nat.reduceBEq, Nat.reduceLeDiff, List.map_cons, List.map_nil, AH.cellsAt, putAt, solid, List.all_cons, List.all_nil, Bool.and_self, List.length_cons, List.length_nil, List.drop_zero, List.take_succ_cons, List.take_zero, List.cons_append, afill, rep, List.reduceReplicate, List.flatten_cons, List.flatten_nil, List.set_cons_zero]
      simp only [Tryd.fn25_r12, AmR, kp, exe, Arg.val, Env.at, lk, putd, ok1, Option.getD_some, if_true, if_false, Nat.reduceEqDiff]
      simp only [Tryd.fn25_r13, q5, AmR, kp, exe, Arg.val, Env.at, lk, putd, ok1, okM, abin, Option.getD_some, if_true, if_false, Nat.reduceEqDiff, Int.reduceAdd]
      -- what follows
      have hnums : numsL 5 r0 = some ([v1, v2, v3, v4, v5], r5) := by simp only [numsL, hw1, hz1, hw2, hz2, hw3, hz3, hw4, hz4, hw5, hz5, Option.bind_some, Option.map_some]
      rw [hnums, Option.bind_some] at hread
      dsimp only at hread
      obtain ⟨r, e, hu, hrl, hrd⟩ := Tryd.unqRefU r5 (by omega)
      have hqt := Tryd.quoteRef r (by omega)
      have fq : (∀ d, r5 ≠ quoteL d) → readL s = none := fun h => by
        have hn : unqL r5 = none := by
          cases hu : unqL r5 with
          | none => rfl
          | some d => exact absurd (unqL_some hu) (h d)
        rw [hread, hn]; rfl
      refine W_loopN hL ?_
      simp only [Tryd.fn25_l0, Tryd.fn25_r6, AmR, kp, pushA, exe, Arg.val, Env.at, lk, putd, ok1, okM, abin, Option.getD_some, if_true, if_false, Nat.reduceEqDiff, decide_false, Int.reduceLT]
      simp only [Tryd.fn25_r14, hu, AmR, kp, exe, Arg.val, Env.at, lk, putd, ok1, okM, Option.getD_some, if_true, if_false, List.getElem?_cons_zero, List.getElem?_cons_succ, Nat.reduceEqDiff, List.map_cons, List.map_nil]
      by_cases he : e = 0
      case neg =>
        have e1 : (e != 0) = true := by rw [bne_iff_ne]; exact he
        rw [fin4 (fq fun d h => he (hrd d h).2)]
        simp only [Tryd.fn25_r15, Tryd.fn25_r16, e1, AmR, kp, pushA, exe, Arg.val, Env.at, lk, putd, AV.cells?, ok1, okM, AH.get, abin, Option.getD_some, if_true, if_false, Nat.reduceEqDiff, Nat.reduceAdd, Nat.reduceLT, Bool.false_eq_true, resAll, resOf, and_true, Nat.reduceLeDiff, List.map_nil, AH.cellsAt, AH.store, AH.put, rpl, putAt, solid, List.all_cons, List.all_nil, Bool.and_self, List.length_cons, List.length_nil, List.drop_zero, List.take_succ_cons, List.take_zero, Option.map_some, afill, List.set_cons_zero, List.set_cons_succ]
      have e1 : (e != 0) = false := by rw [he]; rfl
      simp only [Tryd.fn25_r15, e1, hqt, AmR, Cd_nbeq, kp, pushA, exe, Arg.val, Env.at, lk, putd, ok1, okM, abin, Option.getD_some, if_true, if_false, Nat.reduceEqDiff, Bool.false_eq_true, List.map_cons, List.map_nil]
      refine ⟨fun h6 => ?_, fun h6 => ?_⟩
      case _ =>
        have hu6 : unqL r5 = some r := by
          cases hu : unqL r5 with
          | none => exact absurd h6.symm (unqL_none hu r)
          | some d => rw [(hrd d (unqL_some hu)).1]
        rw [hu6] at hread
        simp only [Option.bind_some] at hread
        rw [parseR_some hread, clamp_ok]
        have hval := Tryd.validRef ⟨(k : Int) + 1, clampZ v1, clampZ v2, clampZ v3, clampZ v4, r, clampZ v5⟩
        generalize hB : Ev.ok ⟨(k : Int) + 1, clampZ v1, clampZ v2, clampZ v3, clampZ v4, r, clampZ v5⟩ = B at hval ⊢
        simp only [Ev.av, Ev.cells] at hval
        refine W_drawn' (by kernel_rfl) ?_
        simp only [Tryd.fn25_r17, Tryd.fn25_r17a, Tryd.fn25_r17b, Tryd.fn25_r17c, hkr, AmR, kp, exe, Arg.val, Env.at, lk, putd, AV.cells?, ok1, okM, AH.push, AH.get, Option.getD_some, if_true, if_false, List.getElem?_cons_zero, List.getElem?_cons_succ, Nat.reduceEqDiff, Nat.reduceAdd, Nat.reduceMul, Nat.reduceLT, Bool.false_eq_true, and_true, true_and, List.nil_append, List.append_nil, visH, List.filter_nil, List.flatMap_nil, List.flatMap_cons, List.contains_cons, List.contains_nil, Bool.or_false, Nat.reduceLeDiff, List.map_cons, List.map_nil, AH.store, AH.put, rpl, putAt, solid, List.all_cons, List.all_nil, Bool.and_self, List.length_cons, List.length_nil, Option.map_some, List.cons_append, afill, Int.reduceLT, Int.reduceLE, Int.reduceToNat, List.set_cons_zero, List.set_cons_succ, Int.cast_ofNat_Int]
        cases B with
        | false =>
          rw [if_neg (by decide)]
          simp only [Tryd.fn25_r18, hval, Tryd.fn25_r19, evNil, Ev.av, Ev.cells, AmR, kp, pushA, exe, Arg.val, Env.at, lk, putd, AV.cells?, ok1, okM, AH.get, Option.getD_some, if_true, if_false, Bool.not_false, Nat.reduceEqDiff, Nat.reduceAdd, Nat.reduceLT, Bool.false_eq_true, resAll, resOf, and_true, Nat.reduceLeDiff, aun, List.map_cons, List.map_nil, AH.cellsAt, AH.store, AH.put, rpl, putAt, solid, List.all_cons, List.all_nil, Bool.and_self, List.length_cons, List.length_nil, List.drop_zero, List.take_succ_cons, List.take_zero, Option.map_some, afill, List.set_cons_zero, List.set_cons_succ]
        | true =>
          rw [if_pos rfl]
          simp only [Tryd.fn25_r18, hval, Tryd.fn25_r20, Ev.av, Ev.cells, AmR, kp, pushA, exe, Arg.val, Env.at, lk, putd, AV.cells?, ok1, okM, AH.get, Option.getD_some, if_true, if_false, Bool.not_true, Nat.reduceEqDiff, Nat.reduceAdd, Nat.reduceLT, Bool.false_eq_true, resAll, resOf, and_true, Nat.reduceLeDiff, aun, List.map_cons, List.map_nil, AH.cellsAt, AH.store, AH.put, rpl, putAt, solid, List.all_cons, List.all_nil, Bool.and_self, List.length_cons, List.length_nil, List.drop_zero, List.take_succ_cons, List.take_zero, Option.map_some, List.set_cons_zero, List.set_cons_succ]
      case _ =>
        rw [fin4 (fq fun d h => h6 (by rw [h, (hrd d h).1]))]
        simp only [Tryd.fn25_r16, AmR, kp, exe, Arg.val, Env.at, lk, putd, AV.cells?, ok1, okM, AH.get, Option.getD_some, if_true, if_false, Nat.reduceEqDiff, Nat.reduceAdd, Nat.reduceLT, Bool.false_eq_true, resAll, resOf, and_true, Nat.reduceLeDiff, List.map_nil, AH.cellsAt, AH.store, AH.put, rpl, putAt, solid, List.all_cons, List.all_nil, Bool.and_self, List.length_cons, List.length_nil, List.drop_zero, List.take_succ_cons, List.take_zero, Option.map_some, afill, List.set_cons_zero, List.set_cons_succ]

end Go.Am
