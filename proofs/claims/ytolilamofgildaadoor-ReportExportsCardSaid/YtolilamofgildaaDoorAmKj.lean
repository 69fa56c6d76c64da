/-
Lines of events. Conditions: none.
-/
import Derived.Test.YtolilamofgildaaDoorAmKi
import Derived.Lib.ItoaLen
set_option linter.unusedSimpArgs false
set_option linter.unusedVariables false
namespace Go.Am

def kindName (k : Int) : List UInt8 := kindNames.getD (k - 1).toNat []
def lineWords (x : Ev) : List (List UInt8) := [kindName x.k, Lib.itoa x.f, Lib.itoa x.t, Lib.itoa x.v, Lib.itoa x.a, Lib.itoa x.ft, quoteL x.d]
def lineL (x : Ev) : List UInt8 := Lib.join (lineWords x) [32]

theorem kindBlk_at {k : Int} (h1 : 1 ≤ k) (h2 : k ≤ 8) : kindBlk.cells[0 + (k - 1).toNat * 1]? = some (.str (kindName k)) := by
  have : k = 1 ∨ k = 2 ∨ k = 3 ∨ k = 4 ∨ k = 5 ∨ k = 6 ∨ k = 7 ∨ k = 8 := by omega
  rcases this with rfl | rfl | rfl | rfl | rfl | rfl | rfl | rfl <;> rfl
theorem kindName_len (k : Int) : (kindName k).length ≤ 10 := by
  have : ∀ n : Fin 8, (kindNames.getD n.val []).length ≤ 10 := by decide
  unfold kindName
  by_cases h : (k - 1).toNat < 8
  · exact this ⟨_, h⟩
  · rw [List.getD_eq_getElem?_getD, List.getElem?_eq_none (by show 8 ≤ _; omega)]; simp

theorem Tryd.itoa (n : Int) (H : AH) (h0 : -9223372036854775808 ≤ n) (h1 : n ≤ 9223372036854775807) : Tryd.call 31 [.int .i64 n] H = some (.ok (.str (Lib.itoa n)), H) := by
  refine ecall_ext 6 [] _ _ (g := gItoa) rfl _ H ?_
  show (if -9223372036854775808 ≤ n ∧ n ≤ 9223372036854775807 then ok1 H (.str (itoaF n)) else none) = _
  rw [if_pos ⟨h0, h1⟩, itoaF_eq h0 h1]
  rfl

theorem strsOf_map (xs : List (List UInt8)) : strsOf (xs.map .str) = some xs := by
  induction xs with
  | nil => rfl
  | cons x xs ih => simp [strsOf, ih]

theorem Tryd.join (H : AH) (i n : Nat) (c : Option Nat) (xs : List (List UInt8)) (sep : List UInt8) (hc : H.cellsAt i 0 n = some (xs.map .str)) (hn : n ≤ 140737488355328) (hl : (Lib.join xs sep).length ≤ 140737488355328) :
    Tryd.call 45 [.sl i 0 1 n c, .str sep] H = some (.ok (.str (Lib.join xs sep)), H) := by
  refine ecall_ext 6 [] _ _ (g := gJoin) rfl _ H ?_
  simp only [gJoin, if_true, hc, strsOf_map, hn, hl, and_self]
  rfl

theorem Ev.ok_iff (x : Ev) : x.ok = true ↔ (1 ≤ x.k ∧ x.k ≤ 8 ∧ 0 ≤ x.f ∧ x.f ≤ x.t ∧ x.t ≤ 1099511627776 ∧ -9007199254740992 ≤ x.v ∧ x.v ≤ 9007199254740992 ∧ -9007199254740992 ≤ x.a ∧ x.a ≤ 9007199254740992 ∧ (x.d.length : Int) ≤ 4096 ∧ 0 ≤ x.ft ∧ x.ft ≤ 12) := by
  unfold Ev.ok; rw [decide_eq_true_iff]

theorem quoteL_len (d : List UInt8) : (quoteL d).length ≤ 4 * d.length + 2 := by
  have := quotes_len d
  unfold quoteL
  simp only [List.length_cons, List.length_append, List.length_nil]
  omega

theorem lineL_eq (x : Ev) : lineL x = kindName x.k ++ [32] ++ Lib.itoa x.f ++ [32] ++ Lib.itoa x.t ++ [32] ++ Lib.itoa x.v ++ [32] ++ Lib.itoa x.a ++ [32] ++ Lib.itoa x.ft ++ [32] ++ quoteL x.d := by
  simp [lineL, lineWords, Lib.join, List.intercalate, List.intersperse]

theorem lineL_len (x : Ev) (h : x.ok = true) : (lineL x).length ≤ 20000 := by
  rw [Ev.ok_iff] at h
  have h1 := kindName_len x.k
  have h2 := Lib.itoa_length_le x.f (by omega) (by omega)
  have h3 := Lib.itoa_length_le x.t (by omega) (by omega)
  have h4 := Lib.itoa_length_le x.v (by omega) (by omega)
  have h5 := Lib.itoa_length_le x.a (by omega) (by omega)
  have h6 := Lib.itoa_length_le x.ft (by omega) (by omega)
  have h7 := quoteL_len x.d
  rw [lineL_eq]
  simp only [List.length_append, List.length_cons, List.length_nil]
  omega

theorem Tryd.lineBad (x : Ev) (H : AH) (h : x.ok = false) : Tryd.call 29 [x.av] H = some (.ok (.tup [.str [], .int .i64 1]), H) := by
  refine ecall_flat 6 [] _ _ (out := [.str [], .int .i64 1]) rfl rfl rfl (views_agg x.flat (views_nil H 6)) rfl ?_
  show W Tryd.call _ _ _ _ _
  have hv := Tryd.valid x
  rw [h] at hv
  obtain ⟨k, f, t, v, a, d, ft⟩ := x
  simp only [Ev.av, Ev.cells] at hv ⊢
  simp only [Tryd.fn29, AmR, number, List.append_nil]
  simp only [Tryd.fn29_r0, AmR, kp, exe, Arg.val, Env.at, lk, putd, AV.cells?, ok1, AH.push, Option.getD_some, if_true, if_false, reduceCtorEq, Nat.reduceEqDiff, Nat.reduceAdd]
  simp only [Tryd.fn29_r1, hv, AmR, kp, pushA, exe, Arg.val, Env.at, lk, putd, okM, AH.get, Option.getD_some, if_true, if_false, Bool.not_false, Nat.reduceEqDiff, Nat.reduceAdd, Nat.reduceLeDiff, aun, List.map_cons, List.map_nil, AH.cellsAt, List.length_cons, List.length_nil, List.drop_zero, List.take_succ_cons, List.take_zero, Option.map_some]
  simp only [Tryd.fn29_r2, AmR, kp, exe, Arg.val, Env.at, lk, putd, ok1, Option.getD_some, if_true, if_false, Nat.reduceEqDiff, resAll, resOf]

theorem Tryd.line (x : Ev) (H : AH) (h : x.ok = true) : Tryd.call 29 [x.av] H = some (.ok (.tup [.str (lineL x), .int .i64 0]), H) := by
  refine ecall_flat 6 [] _ _ (out := [.str (lineL x), .int .i64 0]) rfl rfl rfl (views_agg x.flat (views_nil H 6)) rfl ?_
  show W Tryd.call _ _ _ _ _
  have hv := Tryd.valid x
  rw [h] at hv
  have hlen := lineL_len x h
  rw [Ev.ok_iff] at h
  generalize hr : lineL x = r at hlen ⊢
  obtain ⟨k, f, t, v, a, d, ft⟩ := x
  simp only [Ev.av, Ev.cells] at hv ⊢
  dsimp only at h
  have hwk : IntKind.i64.wrap (k - 1) = k - 1 := IntWalk.i64_in _ (by omega)
  have hk1 : (0 : Int) ≤ k - 1 := by omega
  have hk2 : k - 1 < 8 := by omega
  have hkb := kindBlk_at h.1 h.2.1
  have hkinds := Tryd.kinds
  have w1 : IntKind.i64.wrap 1 = 1 := rfl
  have w2 : IntKind.i64.wrap 2 = 2 := rfl
  have w3 : IntKind.i64.wrap 3 = 3 := rfl
  have w4 : IntKind.i64.wrap 4 = 4 := rfl
  have w5 : IntKind.i64.wrap 5 = 5 := rfl
  have i1 := fun H => Tryd.itoa f H (by omega) (by omega)
  have i2 := fun H => Tryd.itoa t H (by omega) (by omega)
  have i3 := fun H => Tryd.itoa v H (by omega) (by omega)
  have i4 := fun H => Tryd.itoa a H (by omega) (by omega)
  have i5 := fun H => Tryd.itoa ft H (by omega) (by omega)
  simp only [Tryd.fn29, AmR, number, List.append_nil]
  simp only [Tryd.fn29_r0, AmR, kp, exe, Arg.val, Env.at, lk, putd, AV.cells?, ok1, AH.push, Option.getD_some, if_true, if_false, reduceCtorEq, Nat.reduceEqDiff, Nat.reduceAdd]
  simp only [Tryd.fn29_r1, hv, AmR, kp, pushA, exe, Arg.val, Env.at, lk, putd, okM, AH.get, Option.getD_some, if_true, if_false, Bool.not_true, Nat.reduceEqDiff, Nat.reduceAdd, Nat.reduceLeDiff, aun, List.map_cons, List.map_nil, AH.cellsAt, List.length_cons, List.length_nil, List.drop_zero, List.take_succ_cons, List.take_zero, Option.map_some]
  refine W_drawn' (by kernel_rfl) ?_
  simp only [Tryd.fn29_r3, hkinds, hwk, hk1, hk2, hkb, Int.cast_ofNat_Int, AmR, kp, exe, Arg.val, Env.at, lk, putd, AV.cells?, ok1, okM, AH.push, AH.get, abin, Option.getD_some, if_true, if_false, List.getElem?_cons_zero, Nat.reduceEqDiff, Nat.reduceAdd, Bool.false_eq_true, and_true, true_and, List.nil_append, List.append_nil, visH, List.filter_cons, List.filter_nil, List.flatMap_nil, List.flatMap_cons, List.contains_cons, List.contains_nil, Nat.reduceBEq, Bool.or_false, Nat.reduceLeDiff, List.map_cons, List.map_nil, putAt, List.length_cons, List.length_nil, List.cons_append, afill, rep, AH.take1, List.reduceReplicate, List.flatten_cons, List.flatten_nil, List.set_cons_zero, Int.cast_ofNat_Int]
  simp only [Tryd.fn29_r4, AmR, kp, exe, Arg.val, Env.at, lk, putd, ok1, okM, AH.get, Option.getD_some, if_true, if_false, List.getElem?_cons_zero, List.getElem?_cons_succ, Nat.reduceEqDiff, Nat.reduceAdd]
  simp only [Tryd.fn29_r5, Int.cast_ofNat_Int, AmR, kp, exe, Arg.val, Env.at, lk, putd, AV.cells?, ok1, okM, AH.push, Option.getD_some, if_true, if_false, Nat.reduceEqDiff, Nat.reduceAdd, and_true, List.nil_append, List.append_nil, Nat.reduceLeDiff, List.map_cons, List.map_nil, putAt, List.length_cons, List.length_nil, Option.map_some, List.cons_append, afill, rep, List.reduceReplicate, List.flatten_cons, List.flatten_nil, List.set_cons_zero, List.set_cons_succ, Int.cast_ofNat_Int, ↓exe_lenl, lenS_sl]
  generalize hL' : ACode.loop (some [1, 4, 27, 28, 29]) Tryd.fn29_l0 = L
  have hL := hL'.symm
  refine W_loopN hL ?_
  simp only [Tryd.fn29_l0, Tryd.fn29_r6, AmR, kp, pushA, exe, Arg.val, Env.at, lk, putd, okM, abin, Option.getD_some, if_true, if_false, Nat.reduceEqDiff, decide_true, Int.reduceLT]
  simp only [Tryd.fn29_r7, Int.cast_ofNat_Int, AmR, kp, exe, Arg.val, Env.at, lk, putd, ok1, okM, AH.get, Option.getD_some, if_true, if_false, List.getElem?_cons_zero, Nat.reduceEqDiff, Nat.reduceAdd, Nat.reduceMul, and_true, Int.reduceLT, Int.reduceLE, Int.reduceToNat, Int.cast_ofNat_Int]
  simp only [Tryd.fn29_r8, i1, takeFrom, aapp, Nat.div_one, Nat.reduceMod, and_self, not_false_eq_true, del, AH.turn, AmR, kp, exe, Arg.val, Env.at, lk, putd, AV.cells?, ok1, AH.push, AH.get, Option.getD_some, if_true, if_false, reduceCtorEq, Nat.reduceEqDiff, Nat.reduceAdd, Nat.reduceMul, Bool.true_eq_false, List.nil_append, List.append_nil, Nat.reduceBEq, Nat.reduceLeDiff, List.map_cons, List.map_nil, AH.cellsAt, putAt, solid, List.all_cons, List.all_nil, Bool.and_self, List.length_cons, List.length_nil, List.drop_zero, List.take_succ_cons, List.take_zero, List.cons_append, afill, rep, List.reduceReplicate, List.flatten_cons, List.flatten_nil, List.set_cons_zero]
  simp only [Tryd.fn29_r9, w1, AmR, kp, exe, Arg.val, Env.at, lk, putd, ok1, okM, abin, Option.getD_some, if_true, if_false, Nat.reduceEqDiff, Int.reduceAdd]
  refine W_loopN hL ?_
  simp only [Tryd.fn29_l0, Tryd.fn29_r6, AmR, kp, pushA, exe, Arg.val, Env.at, lk, putd, okM, abin, Option.getD_some, if_true, if_false, Nat.reduceEqDiff, decide_true, Int.reduceLT]
  simp only [Tryd.fn29_r7, Int.cast_ofNat_Int, AmR, kp, exe, Arg.val, Env.at, lk, putd, ok1, okM, AH.get, Option.getD_some, if_true, if_false, List.getElem?_cons_zero, List.getElem?_cons_succ, Nat.reduceEqDiff, Nat.reduceAdd, Nat.reduceMul, and_true, Int.reduceLT, Int.reduceLE, Int.reduceToNat, Int.cast_ofNat_Int]
  simp only [Tryd.fn29_r8, i2, takeFrom, aapp, Nat.div_one, Nat.reduceMod, and_self, not_false_eq_true, del, AH.turn, AmR, kp, exe, Arg.val, Env.at, lk, putd, AV.cells?, ok1, AH.push, AH.get, Option.getD_some, if_true, if_false, reduceCtorEq, Nat.reduceEqDiff, Nat.reduceAdd, Nat.reduceMul, Bool.true_eq_false, List.nil_append, List.append_nil, Nat.reduceBEq, Nat.reduceLeDiff, List.map_cons, List.map_nil, AH.cellsAt, putAt, solid, List.all_cons, List.all_nil, Bool.and_self, List.length_cons, List.length_nil, List.drop_zero, List.take_succ_cons, List.take_zero, List.cons_append, afill, rep, List.reduceReplicate, List.flatten_cons, List.flatten_nil, List.set_cons_zero]
  simp only [Tryd.fn29_r9, w2, AmR, kp, exe, Arg.val, Env.at, lk, putd, ok1, okM, abin, Option.getD_some, if_true, if_false, Nat.reduceEqDiff, Int.reduceAdd]
  refine W_loopN hL ?_
  simp only [Tryd.fn29_l0, Tryd.fn29_r6, AmR, kp, pushA, exe, Arg.val, Env.at, lk, putd, okM, abin, Option.getD_some, if_true, if_false, Nat.reduceEqDiff, decide_true, Int.reduceLT]
  simp only [Tryd.fn29_r7, Int.cast_ofNat_Int, AmR, kp, exe, Arg.val, Env.at, lk, putd, ok1, okM, AH.get, Option.getD_some, if_true, if_false, List.getElem?_cons_zero, List.getElem?_cons_succ, Nat.reduceEqDiff, Nat.reduceAdd, Nat.reduceMul, and_true, Int.reduceLT, Int.reduceLE, Int.reduceToNat, Int.cast_ofNat_Int]
  simp only [Tryd.fn29_r8, i3, takeFrom, aapp, Nat.div_one, Nat.reduceMod, and_self, not_false_eq_true, del, AH.turn, AmR, kp, exe, Arg.val, Env.at, lk, putd, AV.cells?, ok1, AH.push, AH.get, Option.getD_some, if_true, if_false, reduceCtorEq, Nat.reduceEqDiff, Nat.reduceAdd, Nat.reduceMul, Bool.true_eq_false, List.nil_append, List.append_nil, Nat.reduceBEq, Nat.reduceLeDiff, List.map_cons, List.map_nil, AH.cellsAt, putAt, solid, List.all_cons, List.all_nil, Bool.and_self, List.length_cons, List.length_nil, List.drop_zero, List.take_succ_cons, List.take_zero, List.cons_append, afill, rep, List.reduceReplicate, List.flatten_cons, List.flatten_nil, List.set_cons_zero]
  simp only [Tryd.fn29_r9, w3, AmR, kp, exe, Arg.val, Env.at, lk, putd, ok1, okM, abin, Option.getD_some, if_true, if_false, Nat.reduceEqDiff, Int.reduceAdd]
  refine W_loopN hL ?_
  simp only [Tryd.fn29_l0, Tryd.fn29_r6, AmR, kp, pushA, exe, Arg.val, Env.at, lk, putd, okM, abin, Option.getD_some, if_true, if_false, Nat.reduceEqDiff, decide_true, Int.reduceLT]
  simp only [Tryd.fn29_r7, Int.cast_ofNat_Int, AmR, kp, exe, Arg.val, Env.at, lk, putd, ok1, okM, AH.get, Option.getD_some, if_true, if_false, List.getElem?_cons_zero, List.getElem?_cons_succ, Nat.reduceEqDiff, Nat.reduceAdd, Nat.reduceMul, and_true, Int.reduceLT, Int.reduceLE, Int.reduceToNat, Int.cast_ofNat_Int]
  simp only [Tryd.fn29_r8, i4, takeFrom, aapp, Nat.div_one, Nat.reduceMod, and_self, not_false_eq_true, del, AH.turn, AmR, kp, exe, Arg.val, Env.at, lk, putd, AV.cells?, ok1, AH.push, AH.get, Option.getD_some, if_true, if_false, reduceCtorEq, Nat.reduceEqDiff, Nat.reduceAdd, Nat.reduceMul, Bool.true_eq_false, List.nil_append, List.append_nil, Nat.reduceBEq, Nat.reduceLeDiff, List.map_cons, List.map_nil, AH.cellsAt, putAt, solid, List.all_cons, List.all_nil, Bool.and_self, List.length_cons, List.length_nil, List.drop_zero, List.take_succ_cons, List.take_zero, List.cons_append, afill, rep, List.reduceReplicate, List.flatten_cons, List.flatten_nil, List.set_cons_zero]
  simp only [Tryd.fn29_r9, w4, AmR, kp, exe, Arg.val, Env.at, lk, putd, ok1, okM, abin, Option.getD_some, if_true, if_false, Nat.reduceEqDiff, Int.reduceAdd]
  refine W_loopN hL ?_
  simp only [Tryd.fn29_l0, Tryd.fn29_r6, AmR, kp, pushA, exe, Arg.val, Env.at, lk, putd, okM, abin, Option.getD_some, if_true, if_false, Nat.reduceEqDiff, decide_true, Int.reduceLT]
  simp only [Tryd.fn29_r7, Int.cast_ofNat_Int, AmR, kp, exe, Arg.val, Env.at, lk, putd, ok1, okM, AH.get, Option.getD_some, if_true, if_false, List.getElem?_cons_zero, List.getElem?_cons_succ, Nat.reduceEqDiff, Nat.reduceAdd, Nat.reduceMul, and_true, Int.reduceLT, Int.reduceLE, Int.reduceToNat, Int.cast_ofNat_Int]
  simp only [Tryd.fn29_r8, i5, takeFrom, aapp, Nat.div_one, Nat.reduceMod, and_self, not_false_eq_true, del, AH.turn, AmR, kp, exe, Arg.val, Env.at, lk, putd, AV.cells?, ok1, AH.push, AH.get, Option.getD_some, if_true, if_false, reduceCtorEq, Nat.reduceEqDiff, Nat.reduceAdd, Nat.reduceMul, Bool.true_eq_false, List.nil_append, List.append_nil, Nat.reduceBEq, Nat.reduceLeDiff, List.map_cons, List.map_nil, AH.cellsAt, putAt, solid, List.all_cons, List.all_nil, Bool.and_self, List.length_cons, List.length_nil, List.drop_zero, List.take_succ_cons, List.take_zero, List.cons_append, afill, rep, List.reduceReplicate, List.flatten_cons, List.flatten_nil, List.set_cons_zero]
  simp only [Tryd.fn29_r9, w5, AmR, kp, exe, Arg.val, Env.at, lk, putd, ok1, okM, abin, Option.getD_some, if_true, if_false, Nat.reduceEqDiff, Int.reduceAdd]
  refine W_loopN hL ?_
  simp only [Tryd.fn29_l0, Tryd.fn29_r6, AmR, kp, pushA, exe, Arg.val, Env.at, lk, putd, okM, abin, Option.getD_some, if_true, if_false, Nat.reduceEqDiff, decide_false, Int.reduceLT]
  have hq := fun H => Tryd.quote d (by omega) H
  simp only [Tryd.fn29_r10, hq, takeFrom, aapp, Nat.div_one, Nat.reduceMod, and_self, not_false_eq_true, del, AH.turn, AmR, exe, Arg.val, Env.at, lk, putd, AV.cells?, ok1, okM, AH.push, AH.get, Option.getD_some, if_true, if_false, List.getElem?_cons_zero, List.getElem?_cons_succ, reduceCtorEq, Nat.reduceEqDiff, Nat.reduceAdd, Nat.reduceMul, Bool.true_eq_false, List.nil_append, List.append_nil, Nat.reduceBEq, Nat.reduceLeDiff, List.map_cons, List.map_nil, AH.cellsAt, putAt, solid, List.all_cons, List.all_nil, Bool.and_self, List.length_cons, List.length_nil, List.drop_zero, List.take_succ_cons, List.take_zero, List.cons_append, afill, rep, List.reduceReplicate, List.flatten_cons, List.flatten_nil, List.set_cons_zero]
  rw [Tryd.join (xs := lineWords ⟨k, f, t, v, a, d, ft⟩)]
  · simp only [AmR, kp, exe, Arg.val, Env.at, lk, putd, ok1, Option.getD_some, if_true, if_false, Nat.reduceEqDiff, resAll, resOf, Option.some.injEq, List.cons.injEq, AV.str.injEq, and_true]
    exact hr
  · rfl
  · omega
  · show (lineL _).length ≤ _
    rw [hr]; omega

theorem Tryd.lineRefBad (x : Ev) (H : AH) (h : x.ok = false) : Tryd.call 49 [x.av] H = some (.ok (.tup [.str [], .int .i64 1]), H) := by
  refine ecall_flat 6 [] _ _ (out := [.str [], .int .i64 1]) rfl rfl rfl (views_agg x.flat (views_nil H 6)) rfl ?_
  show W Tryd.call _ _ _ _ _
  have hv := Tryd.validRef x
  rw [h] at hv
  obtain ⟨k, f, t, v, a, d, ft⟩ := x
  simp only [Ev.av, Ev.cells] at hv ⊢
  simp only [Tryd.fn49, AmR, number, List.append_nil]
  simp only [Tryd.fn49_r0, AmR, kp, exe, Arg.val, Env.at, lk, putd, AV.cells?, ok1, AH.push, Option.getD_some, if_true, if_false, reduceCtorEq, Nat.reduceEqDiff, Nat.reduceAdd]
  simp only [Tryd.fn49_r1, hv, AmR, kp, pushA, exe, Arg.val, Env.at, lk, putd, okM, AH.get, Option.getD_some, if_true, if_false, Bool.not_false, Nat.reduceEqDiff, Nat.reduceAdd, Nat.reduceLeDiff, aun, List.map_cons, List.map_nil, AH.cellsAt, List.length_cons, List.length_nil, List.drop_zero, List.take_succ_cons, List.take_zero, Option.map_some]
  simp only [Tryd.fn49_r2, AmR, kp, exe, Arg.val, Env.at, lk, putd, ok1, Option.getD_some, if_true, if_false, Nat.reduceEqDiff, resAll, resOf]

theorem Tryd.lineRef (x : Ev) (H : AH) (h : x.ok = true) : Tryd.call 49 [x.av] H = some (.ok (.tup [.str (lineL x), .int .i64 0]), H) := by
  refine ecall_flat 6 [] _ _ (out := [.str (lineL x), .int .i64 0]) rfl rfl rfl (views_agg x.flat (views_nil H 6)) rfl ?_
  show W Tryd.call _ _ _ _ _
  have hv := Tryd.validRef x
  rw [h] at hv
  rw [lineL_eq]
  rw [Ev.ok_iff] at h
  obtain ⟨k, f, t, v, a, d, ft⟩ := x
  simp only [Ev.av, Ev.cells] at hv ⊢
  dsimp only at h
  have hwk : IntKind.i64.wrap (k - 1) = k - 1 := IntWalk.i64_in _ (by omega)
  have hk1 : (0 : Int) ≤ k - 1 := by omega
  have hk2 : k - 1 < 8 := by omega
  have hkb := kindBlk_at h.1 h.2.1
  have hkl := kindName_len k
  have hkinds := Tryd.names
  have i1 := fun H => Tryd.decimal f H (by omega) (by omega)
  have i2 := fun H => Tryd.decimal t H (by omega) (by omega)
  have i3 := fun H => Tryd.decimal v H (by omega) (by omega)
  have i4 := fun H => Tryd.decimal a H (by omega) (by omega)
  have i5 := fun H => Tryd.decimal ft H (by omega) (by omega)
  have l1 := Lib.itoa_length_le f (by omega) (by omega)
  have l2 := Lib.itoa_length_le t (by omega) (by omega)
  have l3 := Lib.itoa_length_le v (by omega) (by omega)
  have l4 := Lib.itoa_length_le a (by omega) (by omega)
  have l5 := Lib.itoa_length_le ft (by omega) (by omega)
  have lq := quoteL_len d
  have hq := fun H => Tryd.quoteRef d (by omega) H
  generalize kindName k = nk at *
  generalize Lib.itoa f = n1 at *
  generalize Lib.itoa t = n2 at *
  generalize Lib.itoa v = n3 at *
  generalize Lib.itoa a = n4 at *
  generalize Lib.itoa ft = n5 at *
  generalize quoteL d = n6 at *
  simp only [Tryd.fn49, AmR, number, List.append_nil]
  simp only [Tryd.fn49_r0, AmR, kp, exe, Arg.val, Env.at, lk, putd, AV.cells?, ok1, AH.push, Option.getD_some, if_true, if_false, reduceCtorEq, Nat.reduceEqDiff, Nat.reduceAdd]
  simp only [Tryd.fn49_r1, hv, AmR, kp, pushA, exe, Arg.val, Env.at, lk, putd, okM, AH.get, Option.getD_some, if_true, if_false, Bool.not_true, Nat.reduceEqDiff, Nat.reduceAdd, Nat.reduceLeDiff, aun, List.map_cons, List.map_nil, AH.cellsAt, List.length_cons, List.length_nil, List.drop_zero, List.take_succ_cons, List.take_zero, Option.map_some]
  refine W_drawn' (by kernel_rfl) ?_
  have z1 : nk.length + 1 ≤ 281474976710656 := by omega
  have z2 : nk.length + 1 + n1.length ≤ 281474976710656 := by omega
  have z3 : nk.length + 1 + n1.length + 1 ≤ 281474976710656 := by omega
  have z4 : nk.length + 1 + n1.length + 1 + n2.length ≤ 281474976710656 := by omega
  have z5 : nk.length + 1 + n1.length + 1 + n2.length + 1 ≤ 281474976710656 := by omega
  have z6 : nk.length + 1 + n1.length + 1 + n2.length + 1 + n3.length ≤ 281474976710656 := by omega
  have z7 : nk.length + 1 + n1.length + 1 + n2.length + 1 + n3.length + 1 ≤ 281474976710656 := by omega
  have z8 : nk.length + 1 + n1.length + 1 + n2.length + 1 + n3.length + 1 + n4.length ≤ 281474976710656 := by omega
  have z9 : nk.length + 1 + n1.length + 1 + n2.length + 1 + n3.length + 1 + n4.length + 1 ≤ 281474976710656 := by omega
  have z10 : nk.length + 1 + n1.length + 1 + n2.length + 1 + n3.length + 1 + n4.length + 1 + n5.length ≤ 281474976710656 := by omega
  have z11 : nk.length + 1 + n1.length + 1 + n2.length + 1 + n3.length + 1 + n4.length + 1 + n5.length + 1 ≤ 281474976710656 := by omega
  have z12 : nk.length + 1 + n1.length + 1 + n2.length + 1 + n3.length + 1 + n4.length + 1 + n5.length + 1 + n6.length ≤ 281474976710656 := by omega
  simp only [Tryd.fn49_r3, hkinds, hwk, hk1, hk2, hkb, AmR, exe, Arg.val, Env.at, lk, putd, ok1, okM, AH.get, abin, Option.getD_some, if_true, if_false, List.getElem?_cons_zero, Nat.reduceEqDiff, Nat.reduceAdd, Bool.false_eq_true, and_true, true_and, List.nil_append, List.append_nil, visH, List.filter_cons, List.filter_nil, List.flatMap_nil, List.flatMap_cons, List.contains_cons, List.contains_nil, Nat.reduceBEq, Bool.or_false, Bool.or_true, Nat.reduceLeDiff, List.map_nil, List.cons_append, AH.take1, Int.cast_ofNat_Int]
  simp only [Tryd.fn49_r3a, i1, z1, z2, z3, List.length_append, AmR, exe, Arg.val, Env.at, lk, putd, ok1, okM, AH.get, abin, Option.getD_some, if_true, if_false, List.getElem?_cons_zero, List.getElem?_cons_succ, Nat.reduceEqDiff, Nat.reduceAdd, Bool.false_eq_true, true_and, List.nil_append, List.append_nil, visH, List.filter_cons, List.filter_nil, List.flatMap_nil, List.flatMap_cons, List.contains_cons, List.contains_nil, Nat.reduceBEq, Bool.or_false, Bool.or_true, Nat.reduceLeDiff, List.map_cons, List.map_nil, List.length_cons, List.length_nil, List.cons_append]
  simp only [Tryd.fn49_r3b, i2, z4, z5, List.length_append, AmR, exe, Arg.val, Env.at, lk, putd, ok1, okM, AH.get, abin, Option.getD_some, if_true, if_false, List.getElem?_cons_zero, List.getElem?_cons_succ, Nat.reduceEqDiff, Nat.reduceAdd, Bool.false_eq_true, true_and, List.nil_append, List.append_nil, visH, List.filter_cons, List.filter_nil, List.flatMap_nil, List.flatMap_cons, List.contains_cons, List.contains_nil, Nat.reduceBEq, Bool.or_false, Bool.or_true, Nat.reduceLeDiff, List.map_cons, List.map_nil, List.length_cons, List.length_nil, List.cons_append]
  simp only [Tryd.fn49_r3c, i3, z6, z7, List.length_append, AmR, exe, Arg.val, Env.at, lk, putd, ok1, okM, AH.get, abin, Option.getD_some, if_true, if_false, List.getElem?_cons_zero, List.getElem?_cons_succ, Nat.reduceEqDiff, Nat.reduceAdd, Bool.false_eq_true, true_and, List.nil_append, List.append_nil, visH, List.filter_cons, List.filter_nil, List.flatMap_nil, List.flatMap_cons, List.contains_cons, List.contains_nil, Nat.reduceBEq, Bool.or_false, Bool.or_true, Nat.reduceLeDiff, List.map_cons, List.map_nil, List.length_cons, List.length_nil, List.cons_append]
  simp only [Tryd.fn49_r3d, i4, i5, z8, z9, List.length_append, AmR, exe, Arg.val, Env.at, lk, putd, ok1, okM, AH.get, abin, Option.getD_some, if_true, if_false, List.getElem?_cons_zero, List.getElem?_cons_succ, Nat.reduceEqDiff, Nat.reduceAdd, Bool.false_eq_true, true_and, List.nil_append, List.append_nil, visH, List.filter_cons, List.filter_nil, List.flatMap_nil, List.flatMap_cons, List.contains_cons, List.contains_nil, Nat.reduceBEq, Bool.or_false, Bool.or_true, Nat.reduceLeDiff, List.map_cons, List.map_nil, List.length_cons, List.length_nil, List.cons_append]
  simp only [Tryd.fn49_r3e, z10, List.length_append, AmR, kp, exe, Arg.val, Env.at, lk, putd, ok1, okM, abin, Option.getD_some, if_true, if_false, Nat.reduceEqDiff, Nat.reduceAdd, true_and, List.nil_append, List.append_nil, visH, List.flatMap_nil, List.flatMap_cons, List.length_cons, List.length_nil, List.cons_append]
  simp only [Tryd.fn49_r4, hq, z11, z12, List.length_append, AmR, kp, exe, Arg.val, Env.at, lk, putd, ok1, okM, AH.get, abin, Option.getD_some, if_true, if_false, List.getElem?_cons_zero, List.getElem?_cons_succ, Nat.reduceEqDiff, Nat.reduceAdd, resAll, resOf, List.map_cons, List.map_nil, List.length_cons, List.length_nil]

end Go.Am
