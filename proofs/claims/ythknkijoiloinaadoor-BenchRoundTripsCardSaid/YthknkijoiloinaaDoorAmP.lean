/-
The form of a section. Conditions: those that each theorem names.
-/
import Derived.Test.YthknkijoiloinaaDoorAmKn
import Derived.Test.YthknkijoiloinaaDoorAmN
set_option linter.unusedSimpArgs false
set_option linter.unusedVariables false
namespace Go.Am

def kindB (k : List UInt8) : Bool := k == [99, 97, 112, 116, 117, 114, 101] || (k == [115, 99, 114, 105, 112, 116] || (k == [115, 116, 97, 99, 107] || (k == [116, 114, 105, 103, 103, 101, 114] || k == [108, 105, 109, 105, 116, 115])))

theorem Tryd.known (k : List UInt8) (H : AH) : Tryd.call 28 [.str k] H = some (.ok (.bool (kindB k)), H) := by
  refine ecall_W 6 [] _ _ (out := [.bool (kindB k)]) rfl rfl rfl ?_
  generalize hr : kindB k = r
  simp only [Tryd.fn28, Tryd.fn28_r0, Tryd.fn28_r1, Tryd.fn28_r2, Tryd.fn28_r3, Tryd.fn28_r4, Tryd.fn28_r5, Tryd.fn28_r6, Tryd.fn28_r7, Tryd.fn28_r8, AmR, Cd_beq, Cd_bne, Cd_nbeq, Rf_beq, Rf_bne, Rf_nbeq, Df_beq, Df_bne, Df_nbeq, kp, pushA, exe, number, Arg.val, Env.at, lk, putd, AV.cells?, ok1, okM, AH.push, AH.get, abin, Option.getD_some, if_true, if_false, List.getElem?_cons_zero, List.getElem?_cons_succ, Bool.not_true, Bool.not_false, reduceIte, reduceCtorEq, Nat.reduceEqDiff, Nat.reduceAdd, Nat.reduceMul, Nat.reduceLT, Nat.reduceSub, decide_true, decide_false, Bool.false_eq_true, Bool.true_eq_false, resAll, resOf, Option.some.injEq, List.cons.injEq, AV.bool.injEq, AV.int.injEq, AV.str.injEq, and_true, true_and, List.nil_append, List.append_nil, visH, List.filter_cons, List.filter_nil, List.flatMap_nil, List.flatMap_cons, List.contains_cons, List.contains_nil, Nat.reduceBEq, Bool.or_false, Bool.or_true, Bool.false_or, Bool.true_or, Nat.reduceLeDiff, aun, List.map_cons, List.map_nil, AH.cellsAt, AH.store, AH.put, rpl, putAt, solid, List.all_cons, List.all_nil, Bool.and_true, Bool.and_self, List.length_cons, List.length_nil, List.drop_zero, List.take_succ_cons, List.take_zero, List.drop_succ_cons, Option.map_some, Option.map_none, List.cons_append, afill, rep, flat1, flat2, Int.reduceEq, Int.reduceLT, Int.reduceLE, Int.reduceNeg, Int.reduceAdd, Int.reduceSub, Int.reduceMul, Int.reduceToNat, AV.sl.injEq, and_assoc, exists_eq_left, exists_eq_left', AH.take1, List.reduceReplicate, List.flatten_cons, List.flatten_nil, List.set_cons_zero, List.set_cons_succ, aeqv, aeq, Bool.false_bne, bne_self_eq_false, Bool.true_bne, Int.cast_ofNat_Int, Int.reduceGT, Int.reduceGE, ↓exe_lenl, lenS_nils, lenS_esl, lenS_sl]
  subst hr
  repeat' (first | apply And.intro | intro _)
  all_goals first
    | rfl
    | (simp_all [kindB]; done)

theorem Tryd.kind (k : List UInt8) (H : AH) : Tryd.call 36 [.str k] H = some (.ok (.bool (kindB k)), H) := by
  refine ecall_W 6 [] _ _ (out := [.bool (kindB k)]) rfl rfl rfl ?_
  generalize hr : kindB k = r
  simp only [Tryd.fn36, Tryd.fn36_r0, Tryd.fn36_r1, Tryd.fn36_r2, AmR, Cd_beq, Cd_bne, Cd_nbeq, Rf_beq, Rf_bne, Rf_nbeq, Df_beq, Df_bne, Df_nbeq, kp, pushA, exe, number, Arg.val, Env.at, lk, putd, AV.cells?, ok1, okM, AH.push, AH.get, abin, Option.getD_some, if_true, if_false, List.getElem?_cons_zero, List.getElem?_cons_succ, Bool.not_true, Bool.not_false, reduceIte, reduceCtorEq, Nat.reduceEqDiff, Nat.reduceAdd, Nat.reduceMul, Nat.reduceLT, Nat.reduceSub, decide_true, decide_false, Bool.false_eq_true, Bool.true_eq_false, resAll, resOf, Option.some.injEq, List.cons.injEq, AV.bool.injEq, AV.int.injEq, AV.str.injEq, and_true, true_and, List.nil_append, List.append_nil, visH, List.filter_cons, List.filter_nil, List.flatMap_nil, List.flatMap_cons, List.contains_cons, List.contains_nil, Nat.reduceBEq, Bool.or_false, Bool.or_true, Bool.false_or, Bool.true_or, Nat.reduceLeDiff, aun, List.map_cons, List.map_nil, AH.cellsAt, AH.store, AH.put, rpl, putAt, solid, List.all_cons, List.all_nil, Bool.and_true, Bool.and_self, List.length_cons, List.length_nil, List.drop_zero, List.take_succ_cons, List.take_zero, List.drop_succ_cons, Option.map_some, Option.map_none, List.cons_append, afill, rep, flat1, flat2, Int.reduceEq, Int.reduceLT, Int.reduceLE, Int.reduceNeg, Int.reduceAdd, Int.reduceSub, Int.reduceMul, Int.reduceToNat, AV.sl.injEq, and_assoc, exists_eq_left, exists_eq_left', AH.take1, List.reduceReplicate, List.flatten_cons, List.flatten_nil, List.set_cons_zero, List.set_cons_succ, aeqv, aeq, Bool.false_bne, bne_self_eq_false, Bool.true_bne, Int.cast_ofNat_Int, Int.reduceGT, Int.reduceGE, ↓exe_lenl, lenS_nils, lenS_esl, lenS_sl]
  subst hr
  repeat' (first | apply And.intro | intro _)
  all_goals first
    | rfl
    | (simp_all [kindB]; done)
    | (rename_i h1 h2 h3 h4
       simp only [kindB]
       rw [beq_false_of_ne h1, beq_false_of_ne h2, beq_false_of_ne h3, beq_false_of_ne h4]
       rfl)

/-- The error of a section by itself. -/
def formL (x : Sec) : Int := if kindB x.k = false then 1 else if nameB x.n = false then 4 else if x.t ≠ [] ∧ x.t.getLast? ≠ some 10 then 4 else if x.t.length > 1048576 then 6 else 0

theorem suffix_lf (t : List UInt8) : Lib.hasSuffix t [10] = (t.getLast? == some 10) := by
  unfold Lib.hasSuffix
  rcases List.eq_nil_or_concat t with rfl | ⟨l, c, rfl⟩
  · rfl
  · rw [List.concat_eq_append, List.getLast?_append]
    simp [List.isSuffixOf, List.isPrefixOf]
    exact Bool.beq_comm ..

theorem Tryd.hasSuffix (s p : List UInt8) (H : AH) (h : s.length ≤ 9223372036854775807) : Tryd.call 30 [.str s, .str p] H = some (.ok (.bool (Lib.hasSuffix s p)), H) :=
  ecall_ext 6 [] _ _ (g := gHasSuffix) rfl _ H (by simp only [gHasSuffix, h, if_true, ok1])

theorem Sec.flat (x : Sec) : x.cells.all flat1 = true := rfl

theorem Tryd.form (x : Sec) (H : AH) (hx : x.t.length ≤ 1000000) : Tryd.call 16 [.agg x.cells] H = some (.ok (.int .i64 (formL x)), H) := by
  refine ecall_flat 6 [] _ _ (out := [.int .i64 (formL x)]) rfl rfl rfl (views_agg x.flat (views_nil H 6)) rfl ?_
  show W Tryd.call _ _ _ _ _
  obtain ⟨k, n, t⟩ := x
  have h1 := Tryd.known k
  have h2 := Tryd.name n
  have h3 := fun H => Tryd.hasSuffix t [10] H (by simp only at hx; omega)
  have h4 : decide ((t.length : Int) > 1048576) = false := decide_eq_false (by simp only at hx; omega)
  rw [suffix_lf] at h3
  simp only [Sec.cells]
  generalize hr : formL ⟨k, n, t⟩ = r
  simp only [formL] at hr
  generalize kindB k = a at *
  generalize nameB n = b at *
  cases a with
  | false =>
    simp only [Tryd.fn16, Tryd.fn16_r0, Tryd.fn16_r1, Tryd.fn16_r2, h1, AmR, Cd_beq, Cd_bne, Cd_nbeq, Rf_beq, Rf_bne, Rf_nbeq, Df_beq, Df_bne, Df_nbeq, kp, pushA, exe, number, Arg.val, Env.at, lk, putd, AV.cells?, ok1, okM, AH.push, AH.get, abin, Option.getD_some, if_true, if_false, List.getElem?_cons_zero, List.getElem?_cons_succ, Bool.not_true, Bool.not_false, reduceIte, reduceCtorEq, Nat.reduceEqDiff, Nat.reduceAdd, Nat.reduceMul, Nat.reduceLT, Nat.reduceSub, decide_true, decide_false, Bool.false_eq_true, Bool.true_eq_false, resAll, resOf, Option.some.injEq, List.cons.injEq, AV.bool.injEq, AV.int.injEq, AV.str.injEq, and_true, true_and, List.nil_append, List.append_nil, visH, List.filter_cons, List.filter_nil, List.flatMap_nil, List.flatMap_cons, List.contains_cons, List.contains_nil, Nat.reduceBEq, Bool.or_false, Bool.or_true, Bool.false_or, Bool.true_or, Nat.reduceLeDiff, aun, List.map_cons, List.map_nil, AH.cellsAt, AH.store, AH.put, rpl, putAt, solid, List.all_cons, List.all_nil, Bool.and_true, Bool.and_self, List.length_cons, List.length_nil, List.drop_zero, List.take_succ_cons, List.take_zero, List.drop_succ_cons, Option.map_some, Option.map_none, List.cons_append, afill, rep, flat1, flat2, Int.reduceEq, Int.reduceLT, Int.reduceLE, Int.reduceNeg, Int.reduceAdd, Int.reduceSub, Int.reduceMul, Int.reduceToNat, AV.sl.injEq, and_assoc, exists_eq_left, exists_eq_left', AH.take1, List.reduceReplicate, List.flatten_cons, List.flatten_nil, List.set_cons_zero, List.set_cons_succ, aeqv, aeq, Bool.false_bne, bne_self_eq_false, Bool.true_bne, Int.cast_ofNat_Int, Int.reduceGT, Int.reduceGE, ↓exe_lenl, lenS_nils, lenS_esl, lenS_sl]
    simpa using hr
  | true =>
  cases b with
  | false =>
    simp only [Tryd.fn16, Tryd.fn16_r0, Tryd.fn16_r1, Tryd.fn16_r2, Tryd.fn16_r3, Tryd.fn16_r4, Tryd.fn16_r5, h1, h2, AmR, Cd_beq, Cd_bne, Cd_nbeq, Rf_beq, Rf_bne, Rf_nbeq, Df_beq, Df_bne, Df_nbeq, kp, pushA, exe, number, Arg.val, Env.at, lk, putd, AV.cells?, ok1, okM, AH.push, AH.get, abin, Option.getD_some, if_true, if_false, List.getElem?_cons_zero, List.getElem?_cons_succ, Bool.not_true, Bool.not_false, reduceIte, reduceCtorEq, Nat.reduceEqDiff, Nat.reduceAdd, Nat.reduceMul, Nat.reduceLT, Nat.reduceSub, decide_true, decide_false, Bool.false_eq_true, Bool.true_eq_false, resAll, resOf, Option.some.injEq, List.cons.injEq, AV.bool.injEq, AV.int.injEq, AV.str.injEq, and_true, true_and, List.nil_append, List.append_nil, visH, List.filter_cons, List.filter_nil, List.flatMap_nil, List.flatMap_cons, List.contains_cons, List.contains_nil, Nat.reduceBEq, Bool.or_false, Bool.or_true, Bool.false_or, Bool.true_or, Nat.reduceLeDiff, aun, List.map_cons, List.map_nil, AH.cellsAt, AH.store, AH.put, rpl, putAt, solid, List.all_cons, List.all_nil, Bool.and_true, Bool.and_self, List.length_cons, List.length_nil, List.drop_zero, List.take_succ_cons, List.take_zero, List.drop_succ_cons, Option.map_some, Option.map_none, List.cons_append, afill, rep, flat1, flat2, Int.reduceEq, Int.reduceLT, Int.reduceLE, Int.reduceNeg, Int.reduceAdd, Int.reduceSub, Int.reduceMul, Int.reduceToNat, AV.sl.injEq, and_assoc, exists_eq_left, exists_eq_left', AH.take1, List.reduceReplicate, List.flatten_cons, List.flatten_nil, List.set_cons_zero, List.set_cons_succ, aeqv, aeq, Bool.false_bne, bne_self_eq_false, Bool.true_bne, Int.cast_ofNat_Int, Int.reduceGT, Int.reduceGE, ↓exe_lenl, lenS_nils, lenS_esl, lenS_sl]
    simpa using hr
  | true =>
    simp only [Tryd.fn16, Tryd.fn16_r0, Tryd.fn16_r1, Tryd.fn16_r2, Tryd.fn16_r3, Tryd.fn16_r4, Tryd.fn16_r5, Tryd.fn16_r6, Tryd.fn16_r7, Tryd.fn16_r8, h1, h2, h3, h4, AmR, Cd_beq, Cd_bne, Cd_nbeq, Rf_beq, Rf_bne, Rf_nbeq, Df_beq, Df_bne, Df_nbeq, kp, pushA, exe, number, Arg.val, Env.at, lk, putd, AV.cells?, ok1, okM, AH.push, AH.get, abin, Option.getD_some, if_true, if_false, List.getElem?_cons_zero, List.getElem?_cons_succ, Bool.not_true, Bool.not_false, reduceIte, reduceCtorEq, Nat.reduceEqDiff, Nat.reduceAdd, Nat.reduceMul, Nat.reduceLT, Nat.reduceSub, decide_true, decide_false, Bool.false_eq_true, Bool.true_eq_false, resAll, resOf, Option.some.injEq, List.cons.injEq, AV.bool.injEq, AV.int.injEq, AV.str.injEq, and_true, true_and, List.nil_append, List.append_nil, visH, List.filter_cons, List.filter_nil, List.flatMap_nil, List.flatMap_cons, List.contains_cons, List.contains_nil, Nat.reduceBEq, Bool.or_false, Bool.or_true, Bool.false_or, Bool.true_or, Nat.reduceLeDiff, aun, List.map_cons, List.map_nil, AH.cellsAt, AH.store, AH.put, rpl, putAt, solid, List.all_cons, List.all_nil, Bool.and_true, Bool.and_self, List.length_cons, List.length_nil, List.drop_zero, List.take_succ_cons, List.take_zero, List.drop_succ_cons, Option.map_some, Option.map_none, List.cons_append, afill, rep, flat1, flat2, Int.reduceEq, Int.reduceLT, Int.reduceLE, Int.reduceNeg, Int.reduceAdd, Int.reduceSub, Int.reduceMul, Int.reduceToNat, AV.sl.injEq, and_assoc, exists_eq_left, exists_eq_left', AH.take1, List.reduceReplicate, List.flatten_cons, List.flatten_nil, List.set_cons_zero, List.set_cons_succ, aeqv, aeq, Bool.false_bne, bne_self_eq_false, Bool.true_bne, Int.cast_ofNat_Int, Int.reduceGT, Int.reduceGE, ↓exe_lenl, lenS_nils, lenS_esl, lenS_sl]
    have h5 : ¬ t.length > 1048576 := by simp only at hx; omega
    subst hr
    refine ⟨fun h => ?_, fun h => ⟨fun h' => ?_, fun h' => ?_⟩⟩
    · rw [if_neg (by simp), if_neg (by simp), if_neg (fun c => c.1 h), if_neg h5]
    · rw [if_neg (by simp), if_neg (by simp), if_neg (fun c => c.2 h'), if_neg h5]
    · rw [if_neg (by simp), if_neg (by simp), if_pos ⟨h, h'⟩]

theorem Tryd.formRef (x : Sec) (H : AH) (hx : x.t.length ≤ 1000000) : Tryd.call 21 [.agg x.cells] H = some (.ok (.int .i64 (formL x)), H) := by
  refine ecall_flat 6 [] _ _ (out := [.int .i64 (formL x)]) rfl rfl rfl (views_agg x.flat (views_nil H 6)) rfl ?_
  show W Tryd.call _ _ _ _ _
  obtain ⟨k, n, t⟩ := x
  have h1 := Tryd.kind k
  have h2 := Tryd.nameRef n
  have h4 : decide ((t.length : Int) > 1048576) = false := decide_eq_false (by simp only at hx; omega)
  simp only [Sec.cells]
  generalize hr : formL ⟨k, n, t⟩ = r
  simp only [formL] at hr
  generalize kindB k = a at *
  generalize nameB n = b at *
  cases a with
  | false =>
    simp only [Tryd.fn21, Tryd.fn21_r0, Tryd.fn21_r1, Tryd.fn21_r2, h1, AmR, Cd_beq, Cd_bne, Cd_nbeq, Rf_beq, Rf_bne, Rf_nbeq, Df_beq, Df_bne, Df_nbeq, kp, pushA, exe, number, Arg.val, Env.at, lk, putd, AV.cells?, ok1, okM, AH.push, AH.get, abin, Option.getD_some, if_true, if_false, List.getElem?_cons_zero, List.getElem?_cons_succ, Bool.not_true, Bool.not_false, reduceIte, reduceCtorEq, Nat.reduceEqDiff, Nat.reduceAdd, Nat.reduceMul, Nat.reduceLT, Nat.reduceSub, decide_true, decide_false, Bool.false_eq_true, Bool.true_eq_false, resAll, resOf, Option.some.injEq, List.cons.injEq, AV.bool.injEq, AV.int.injEq, AV.str.injEq, and_true, true_and, List.nil_append, List.append_nil, visH, List.filter_cons, List.filter_nil, List.flatMap_nil, List.flatMap_cons, List.contains_cons, List.contains_nil, Nat.reduceBEq, Bool.or_false, Bool.or_true, Bool.false_or, Bool.true_or, Nat.reduceLeDiff, aun, List.map_cons, List.map_nil, AH.cellsAt, AH.store, AH.put, rpl, putAt, solid, List.all_cons, List.all_nil, Bool.and_true, Bool.and_self, List.length_cons, List.length_nil, List.drop_zero, List.take_succ_cons, List.take_zero, List.drop_succ_cons, Option.map_some, Option.map_none, List.cons_append, afill, rep, flat1, flat2, Int.reduceEq, Int.reduceLT, Int.reduceLE, Int.reduceNeg, Int.reduceAdd, Int.reduceSub, Int.reduceMul, Int.reduceToNat, AV.sl.injEq, and_assoc, exists_eq_left, exists_eq_left', AH.take1, List.reduceReplicate, List.flatten_cons, List.flatten_nil, List.set_cons_zero, List.set_cons_succ, aeqv, aeq, Bool.false_bne, bne_self_eq_false, Bool.true_bne, Int.cast_ofNat_Int, Int.reduceGT, Int.reduceGE, ↓exe_lenl, lenS_nils, lenS_esl, lenS_sl]
    simpa using hr
  | true =>
  cases b with
  | false =>
    simp only [Tryd.fn21, Tryd.fn21_r0, Tryd.fn21_r1, Tryd.fn21_r2, Tryd.fn21_r3, Tryd.fn21_r4, h1, h2, AmR, Cd_beq, Cd_bne, Cd_nbeq, Rf_beq, Rf_bne, Rf_nbeq, Df_beq, Df_bne, Df_nbeq, kp, pushA, exe, number, Arg.val, Env.at, lk, putd, AV.cells?, ok1, okM, AH.push, AH.get, abin, Option.getD_some, if_true, if_false, List.getElem?_cons_zero, List.getElem?_cons_succ, Bool.not_true, Bool.not_false, reduceIte, reduceCtorEq, Nat.reduceEqDiff, Nat.reduceAdd, Nat.reduceMul, Nat.reduceLT, Nat.reduceSub, decide_true, decide_false, Bool.false_eq_true, Bool.true_eq_false, resAll, resOf, Option.some.injEq, List.cons.injEq, AV.bool.injEq, AV.int.injEq, AV.str.injEq, and_true, true_and, List.nil_append, List.append_nil, visH, List.filter_cons, List.filter_nil, List.flatMap_nil, List.flatMap_cons, List.contains_cons, List.contains_nil, Nat.reduceBEq, Bool.or_false, Bool.or_true, Bool.false_or, Bool.true_or, Nat.reduceLeDiff, aun, List.map_cons, List.map_nil, AH.cellsAt, AH.store, AH.put, rpl, putAt, solid, List.all_cons, List.all_nil, Bool.and_true, Bool.and_self, List.length_cons, List.length_nil, List.drop_zero, List.take_succ_cons, List.take_zero, List.drop_succ_cons, Option.map_some, Option.map_none, List.cons_append, afill, rep, flat1, flat2, Int.reduceEq, Int.reduceLT, Int.reduceLE, Int.reduceNeg, Int.reduceAdd, Int.reduceSub, Int.reduceMul, Int.reduceToNat, AV.sl.injEq, and_assoc, exists_eq_left, exists_eq_left', AH.take1, List.reduceReplicate, List.flatten_cons, List.flatten_nil, List.set_cons_zero, List.set_cons_succ, aeqv, aeq, Bool.false_bne, bne_self_eq_false, Bool.true_bne, Int.cast_ofNat_Int, Int.reduceGT, Int.reduceGE, ↓exe_lenl, lenS_nils, lenS_esl, lenS_sl]
    simpa using hr
  | true =>
    have h5 : ¬ t.length > 1048576 := by simp only at hx; omega
    subst hr
    cases t with
    | nil =>
      simp only [Tryd.fn21, Tryd.fn21_r0, Tryd.fn21_r1, Tryd.fn21_r2, Tryd.fn21_r3, Tryd.fn21_r4, Tryd.fn21_r5, Tryd.fn21_r6, Tryd.fn21_r7, Tryd.fn21_r8, Tryd.fn21_r10, h1, h2, Int.ofNat_zero, AmR, Cd_beq, Cd_bne, Cd_nbeq, Rf_beq, Rf_bne, Rf_nbeq, Df_beq, Df_bne, Df_nbeq, kp, pushA, exe, number, Arg.val, Env.at, lk, putd, AV.cells?, ok1, okM, AH.push, AH.get, abin, Option.getD_some, if_true, if_false, List.getElem?_cons_zero, List.getElem?_cons_succ, Bool.not_true, Bool.not_false, reduceIte, reduceCtorEq, Nat.reduceEqDiff, Nat.reduceAdd, Nat.reduceMul, Nat.reduceLT, Nat.reduceSub, decide_true, decide_false, Bool.false_eq_true, Bool.true_eq_false, resAll, resOf, Option.some.injEq, List.cons.injEq, AV.bool.injEq, AV.int.injEq, AV.str.injEq, and_true, true_and, List.nil_append, List.append_nil, visH, List.filter_cons, List.filter_nil, List.flatMap_nil, List.flatMap_cons, List.contains_cons, List.contains_nil, Nat.reduceBEq, Bool.or_false, Bool.or_true, Bool.false_or, Bool.true_or, Nat.reduceLeDiff, aun, List.map_cons, List.map_nil, AH.cellsAt, AH.store, AH.put, rpl, putAt, solid, List.all_cons, List.all_nil, Bool.and_true, Bool.and_self, List.length_cons, List.length_nil, List.drop_zero, List.take_succ_cons, List.take_zero, List.drop_succ_cons, Option.map_some, Option.map_none, List.cons_append, afill, rep, flat1, flat2, Int.reduceEq, Int.reduceLT, Int.reduceLE, Int.reduceNeg, Int.reduceAdd, Int.reduceSub, Int.reduceMul, Int.reduceToNat, AV.sl.injEq, and_assoc, exists_eq_left, exists_eq_left', AH.take1, List.reduceReplicate, List.flatten_cons, List.flatten_nil, List.set_cons_zero, List.set_cons_succ, aeqv, aeq, Bool.false_bne, bne_self_eq_false, Bool.true_bne, Int.cast_ofNat_Int, Int.reduceGT, Int.reduceGE, ↓exe_lenl, lenS_nils, lenS_esl, lenS_sl]
      rfl
    | cons c l =>
      obtain ⟨d, hd⟩ : ∃ d, (c :: l).getLast? = some d := ⟨_, List.getLast?_eq_some_getLast (by simp)⟩
      have e1 : decide ((((c :: l).length : Nat) : Int) > 0) = true := decide_eq_true (by simp only [List.length_cons]; omega)
      have hpos : 0 < (c :: l).length := by simp
      have hne : ¬ (c :: l) = [] := by simp
      generalize (c :: l) = t at *
      have e2 : IntKind.i64.wrap ((t.length : Int) - 1) = ((t.length - 1 : Nat) : Int) := by rw [IntWalk.i64_in _ (by simp only at hx; omega)]; omega
      have e3 : t[t.length - 1]? = some d := by rw [← List.getLast?_eq_getElem?]; exact hd
      have e4 : (0 : Int) ≤ ((t.length - 1 : Nat) : Int) := by omega
      simp only [Tryd.fn21, Tryd.fn21_r0, Tryd.fn21_r1, Tryd.fn21_r2, Tryd.fn21_r3, Tryd.fn21_r4, Tryd.fn21_r5, Tryd.fn21_r6, Tryd.fn21_r7, Tryd.fn21_r8, Tryd.fn21_r10, h1, h2, h4, e1, e2, e3, e4, Int.toNat_natCast, AmR, Cd_beq, Cd_bne, Cd_nbeq, Rf_beq, Rf_bne, Rf_nbeq, Df_beq, Df_bne, Df_nbeq, kp, pushA, exe, number, Arg.val, Env.at, lk, putd, AV.cells?, ok1, okM, AH.push, AH.get, abin, Option.getD_some, if_true, if_false, List.getElem?_cons_zero, List.getElem?_cons_succ, Bool.not_true, Bool.not_false, reduceIte, reduceCtorEq, Nat.reduceEqDiff, Nat.reduceAdd, Nat.reduceMul, Nat.reduceLT, Nat.reduceSub, decide_true, decide_false, Bool.false_eq_true, Bool.true_eq_false, resAll, resOf, Option.some.injEq, List.cons.injEq, AV.bool.injEq, AV.int.injEq, AV.str.injEq, and_true, true_and, List.nil_append, List.append_nil, visH, List.filter_cons, List.filter_nil, List.flatMap_nil, List.flatMap_cons, List.contains_cons, List.contains_nil, Nat.reduceBEq, Bool.or_false, Bool.or_true, Bool.false_or, Bool.true_or, Nat.reduceLeDiff, aun, List.map_cons, List.map_nil, AH.cellsAt, AH.store, AH.put, rpl, putAt, solid, List.all_cons, List.all_nil, Bool.and_true, Bool.and_self, List.length_cons, List.length_nil, List.drop_zero, List.take_succ_cons, List.take_zero, List.drop_succ_cons, Option.map_some, Option.map_none, List.cons_append, afill, rep, flat1, flat2, Int.reduceEq, Int.reduceLT, Int.reduceLE, Int.reduceNeg, Int.reduceAdd, Int.reduceSub, Int.reduceMul, Int.reduceToNat, AV.sl.injEq, and_assoc, exists_eq_left, exists_eq_left', AH.take1, List.reduceReplicate, List.flatten_cons, List.flatten_nil, List.set_cons_zero, List.set_cons_succ, aeqv, aeq, Bool.false_bne, bne_self_eq_false, Bool.true_bne, Int.cast_ofNat_Int, Int.reduceGT, Int.reduceGE, ↓exe_lenl, lenS_nils, lenS_esl, lenS_sl]
      have e5 : (t.getLast? ≠ some 10) ↔ ¬ ((d.toNat : Int) = 10) := by
        rw [hd]
        constructor
        · intro h h'
          exact h (by rw [Option.some.injEq]; apply UInt8.toNat_inj.1; show d.toNat = 10; omega)
        · intro h h'
          rw [Option.some.injEq] at h'
          subst h'
          exact h rfl
      refine ⟨fun h => ?_, fun h => ?_⟩
      · rw [if_neg (fun c => e5.1 c.2 h), if_neg h5]
      · rw [if_pos ⟨hne, e5.2 h⟩]

end Go.Am
