/-
Parse, whole. Conditions: the string is short.
-/
import Derived.Test.YthknkijoiloinaaDoorAmX
set_option linter.unusedSimpArgs false
set_option linter.unusedVariables false
namespace Go.Am

theorem PInv.start {H0 : AH} (hN : Names H0) (hfl : H0.floor ≤ H0.next) : PInv H0 ((H0.push 24 true [.nils]).push 24 true [.nils]) [] .nils where
  names := (hN.push _ _ _).push _ _ _
  floor := rfl
  low := hfl
  next := Nat.le_refl _
  old := fun i hi => (get_push_old _ _ _ _ (Nat.lt_succ_of_lt hi)).trans (get_push_old _ _ _ _ hi)
  res := (get_push_old _ _ _ _ (Nat.lt_succ_self _)).trans (get_push_new _ _ _ _)
  p := get_push_new (H0.push 24 true [.nils]) 24 true [.nils]
  out := ⟨by decide, by show H0.floor ≤ H0.next + 2; omega, Nat.le_refl _, .inl ⟨rfl, rfl, rfl⟩⟩

theorem Tryd.parse (s : List UInt8) (hs : s.length ≤ 1000000) (H0 : AH) (hN : Names H0) (hfl : H0.floor ≤ H0.next) : ∃ vs H', Tryd.call 11 [.str s] H0 = some (.ok (pack vs), H') ∧ ParseP (parseL s) H0 vs H' := by
  suffices h : W Tryd.call (endK Tryd.fn11.res (ParseP (parseL s) H0)) [] [(0, .str s)] H0 Tryd.fn11.code by
    obtain ⟨vs, H', hp, hc⟩ := ecall_E 6 [] (lk Tryd.ext) (lk Tryd.tab) (f := 11) (fn := Tryd.fn11) (args := [.str s]) (H := H0) rfl rfl rfl h
    exact ⟨vs, H', hc, hp⟩
  have hp := PInv.start hN hfl
  simp only [Tryd.fn11, Tryd.fn11_r0, Tryd.fn11_r1, Tryd.fn11_r2, AmR, Cd_beq, Cd_bne, Cd_nbeq, Rf_beq, Rf_bne, Rf_nbeq, Df_beq, Df_bne, Df_nbeq, kp, pushA, exe, number, Arg.val, Env.at, lk, putd, AV.cells?, ok1, okM, abin, Option.getD_some, if_true, if_false, List.getElem?_cons_zero, List.getElem?_cons_succ, Bool.not_true, Bool.not_false, reduceIte, reduceCtorEq, Nat.reduceEqDiff, Nat.reduceAdd, Nat.reduceMul, Nat.reduceLT, Nat.reduceSub, decide_true, decide_false, Bool.false_eq_true, Bool.true_eq_false, resAll, resOf, Option.some.injEq, List.cons.injEq, AV.bool.injEq, AV.int.injEq, AV.str.injEq, and_true, true_and, List.nil_append, List.append_nil, visH, List.filter_cons, List.filter_nil, List.flatMap_nil, List.flatMap_cons, List.contains_cons, List.contains_nil, Nat.reduceBEq, Bool.or_false, Bool.or_true, Bool.false_or, Bool.true_or, Nat.reduceLeDiff, aun, List.map_cons, List.map_nil, putAt, solid, List.all_cons, List.all_nil, Bool.and_true, Bool.and_self, List.length_cons, List.length_nil, List.drop_zero, List.take_succ_cons, List.take_zero, List.drop_succ_cons, Option.map_some, Option.map_none, List.cons_append, afill, rep, flat1, flat2, Int.reduceEq, Int.reduceLT, Int.reduceLE, Int.reduceNeg, Int.reduceAdd, Int.reduceSub, Int.reduceMul, Int.reduceToNat, AV.sl.injEq, and_assoc, exists_eq_left, exists_eq_left', AH.take1, List.reduceReplicate, List.flatten_cons, List.flatten_nil, List.set_cons_zero, List.set_cons_succ, aeqv, aeq, Bool.false_bne, bne_self_eq_false, Bool.true_bne, Int.cast_ofNat_Int, Int.reduceGT, Int.reduceGE, ↓exe_lenl, lenS_nils, lenS_esl, lenS_sl]
  refine Tryd.parseLoop H0 _ _ _ rfl (parseL s) ?_ ?_ s.length s [] 1 _ .nils (Nat.le_refl _) rfl (by omega) (by simp; omega) hp
  · intro l' ho e H' v' h2 h5 hp'
    rw [ho]
    obtain ⟨H'', st, hc, hss, hg, hn, hlt⟩ := hp'.done v' l' (.inl ⟨rfl, rfl⟩)
    have cp : H'.cellsAt (H0.next + 1) 0 1 = some [v'] := by
      unfold AH.cellsAt
      rw [hp'.p]
      rfl
    simp only [Env.at] at h2 h5
    simp only [Tryd.fn11_r17, h2, h5, cp, st, hc, AmR, Cd_beq, Cd_bne, Cd_nbeq, Rf_beq, Rf_bne, Rf_nbeq, Df_beq, Df_bne, Df_nbeq, kp, pushA, exe, number, Arg.val, Env.at, lk, putd, AV.cells?, ok1, okM, abin, Option.getD_some, if_true, if_false, List.getElem?_cons_zero, List.getElem?_cons_succ, Bool.not_true, Bool.not_false, reduceIte, reduceCtorEq, Nat.reduceEqDiff, Nat.reduceAdd, Nat.reduceMul, Nat.reduceLT, Nat.reduceSub, decide_true, decide_false, Bool.false_eq_true, Bool.true_eq_false, resAll, resOf, Option.some.injEq, List.cons.injEq, AV.bool.injEq, AV.int.injEq, AV.str.injEq, and_true, true_and, List.nil_append, List.append_nil, visH, List.filter_cons, List.filter_nil, List.flatMap_nil, List.flatMap_cons, List.contains_cons, List.contains_nil, Nat.reduceBEq, Bool.or_false, Bool.or_true, Bool.false_or, Bool.true_or, Nat.reduceLeDiff, aun, List.map_cons, List.map_nil, putAt, solid, List.all_cons, List.all_nil, Bool.and_true, Bool.and_self, List.length_cons, List.length_nil, List.drop_zero, List.take_succ_cons, List.take_zero, List.drop_succ_cons, Option.map_some, Option.map_none, List.cons_append, afill, rep, flat1, flat2, Int.reduceEq, Int.reduceLT, Int.reduceLE, Int.reduceNeg, Int.reduceAdd, Int.reduceSub, Int.reduceMul, Int.reduceToNat, AV.sl.injEq, and_assoc, exists_eq_left, exists_eq_left', AH.take1, List.reduceReplicate, List.flatten_cons, List.flatten_nil, List.set_cons_zero, List.set_cons_succ, aeqv, aeq, Bool.false_bne, bne_self_eq_false, Bool.true_bne, Int.cast_ofNat_Int, Int.reduceGT, Int.reduceGE, ↓exe_lenl, lenS_nils, lenS_esl, lenS_sl]
    exact ⟨v', rfl, hss, hg, hn, hlt⟩
  · intro line ho e H' H'' l' v' h2 h3 h4 hp' st
    rw [ho]
    obtain ⟨H3, st', hc, hss, hg, hn, hlt⟩ := hp'.done .nils [] (.inr ⟨rfl, rfl⟩)
    rw [st] at st'
    obtain rfl := Option.some.inj st'
    simp only [Rt_code, Rt_block, Rt_nil]
    rw [endK_ret]
    refine ⟨[.agg [.nils], .int .i64 line, .int .i64 4], ?_, .nils, rfl, hss, hg, hn, hlt⟩
    simp only [Env.at] at h2 h3 h4
    simp only [h2, h3, h4, hc, AmR, Cd_beq, Cd_bne, Cd_nbeq, Rf_beq, Rf_bne, Rf_nbeq, Df_beq, Df_bne, Df_nbeq, kp, pushA, exe, number, Arg.val, Env.at, lk, putd, AV.cells?, ok1, okM, abin, Option.getD_some, if_true, if_false, List.getElem?_cons_zero, List.getElem?_cons_succ, Bool.not_true, Bool.not_false, reduceIte, reduceCtorEq, Nat.reduceEqDiff, Nat.reduceAdd, Nat.reduceMul, Nat.reduceLT, Nat.reduceSub, decide_true, decide_false, Bool.false_eq_true, Bool.true_eq_false, resAll, resOf, Option.some.injEq, List.cons.injEq, AV.bool.injEq, AV.int.injEq, AV.str.injEq, and_true, true_and, List.nil_append, List.append_nil, visH, List.filter_cons, List.filter_nil, List.flatMap_nil, List.flatMap_cons, List.contains_cons, List.contains_nil, Nat.reduceBEq, Bool.or_false, Bool.or_true, Bool.false_or, Bool.true_or, Nat.reduceLeDiff, aun, List.map_cons, List.map_nil, putAt, solid, List.all_cons, List.all_nil, Bool.and_true, Bool.and_self, List.length_cons, List.length_nil, List.drop_zero, List.take_succ_cons, List.take_zero, List.drop_succ_cons, Option.map_some, Option.map_none, List.cons_append, afill, rep, flat1, flat2, Int.reduceEq, Int.reduceLT, Int.reduceLE, Int.reduceNeg, Int.reduceAdd, Int.reduceSub, Int.reduceMul, Int.reduceToNat, AV.sl.injEq, and_assoc, exists_eq_left, exists_eq_left', AH.take1, List.reduceReplicate, List.flatten_cons, List.flatten_nil, List.set_cons_zero, List.set_cons_succ, aeqv, aeq, Bool.false_bne, bne_self_eq_false, Bool.true_bne, Int.cast_ofNat_Int, Int.reduceGT, Int.reduceGE, ↓exe_lenl, lenS_nils, lenS_esl, lenS_sl]

end Go.Am
