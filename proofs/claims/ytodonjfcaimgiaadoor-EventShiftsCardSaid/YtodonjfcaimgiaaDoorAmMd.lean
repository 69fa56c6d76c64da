/-
Copies of lists of events. Conditions: those that each theorem names.
-/
import Derived.Test.YtodonjfcaimgiaaDoorAmMa
set_option linter.unusedSimpArgs false
set_option linter.unusedVariables false
namespace Go.Am

/-- v is nil, or a new row of one's own that holds these events. -/
def NewEvs (H : AH) (v : AV) (H' : AH) (l : List Ev) : Prop := (v = .nils ∧ l = [] ∧ H' = H) ∨ ∃ c b, v = .sl H.next 0 7 l.length c ∧ H' = H.take1 b ∧ b.ro = false ∧ b.cells = rowsOf Ev.cells l ∧ b.ty = 23 ∧ (c = some l.length ∨ c = none)

theorem Tryd.clone (l : List Ev) (v : AV) (H : AH) (hl : l.length ≤ 1000000) (hv : EvS H v l) : ∃ v' H', Tryd.call 28 [v] H = some (.ok v', H') ∧ NewEvs H v' H' l := by
  have fin : ∀ {us : List AV} {bs : List (Nat × Blk)} {kp : Nat}, views H [v] 8 = some (us, bs, kp) → W Tryd.call (endK Tryd.fn28.res (Back kp H fun vs H' => ∃ v', vs = [v'] ∧ NewEvs H v' H' l)) [] (number us 0) ⟨bs ++ [], kp, kp⟩ Tryd.fn28.code →
      ∃ v' H', Tryd.call 28 [v] H = some (.ok v', H') ∧ NewEvs H v' H' l := fun hvw h => by
    obtain ⟨vs, H', ⟨v', rfl, h1⟩, h4⟩ := ecall_vE 8 [] (lk Tryd.ext) (lk Tryd.tab) (f := 28) (fn := Tryd.fn28) rfl rfl rfl hvw h
    exact ⟨v', H', h4, h1⟩
  have emp0 : l.length = 0 → ∀ {kp : Nat} {H1 : AH} (q : Nat) (b : Blk), kp ≤ q → H1.get q = some b → b.ro = false → b.cells = [] → b.ty = 23 → Back kp H (fun vs H' => ∃ v', vs = [v'] ∧ NewEvs H v' H' l) [.sl q 0 7 0 (some 0)] H1 := fun hn => by
    have : l = [] := List.length_eq_zero_iff.1 hn
    subst this
    intro kp H1 q b hq hg hro hcells hty
    exact back_slice hq hg hro (by rw [hcells]; rfl) rfl ⟨_, rfl, .inr ⟨some 0, b, rfl, rfl, hro, hcells, hty, .inl rfl⟩⟩
  rcases hv.cases with ⟨rfl, hn, _⟩ | ⟨rfl, hn, _⟩ | ⟨i, o, c, b, rfl, hb, hlb, hcs⟩
  · refine fin (views_flat rfl (views_nil H 8)) ?_
    simp only [Tryd.fn28, Tryd.fn28_r0, Tryd.fn28_r1, Tryd.fn28_r2, AmR, Cd_beq, Cd_bne, Cd_nbeq, Rf_beq, Rf_bne, Rf_nbeq, Df_beq, Df_bne, Df_nbeq, kp, pushA, exe, number, Arg.val, Env.at, lk, putd, AV.cells?, ok1, okM, AH.push, AH.get, abin, Option.getD_some, if_true, if_false, List.getElem?_cons_zero, List.getElem?_cons_succ, Bool.not_true, Bool.not_false, reduceIte, reduceCtorEq, Nat.reduceEqDiff, Nat.reduceAdd, Nat.reduceMul, Nat.reduceLT, Nat.reduceSub, decide_true, decide_false, Bool.false_eq_true, Bool.true_eq_false, resAll, resOf, Option.some.injEq, List.cons.injEq, AV.bool.injEq, AV.int.injEq, AV.str.injEq, and_true, true_and, List.nil_append, List.append_nil, visH, List.filter_cons, List.filter_nil, List.flatMap_nil, List.flatMap_cons, List.contains_cons, List.contains_nil, Nat.reduceBEq, Bool.or_false, Bool.or_true, Bool.false_or, Bool.true_or, Nat.reduceLeDiff, aun, List.map_cons, List.map_nil, AH.cellsAt, AH.store, AH.put, rpl, putAt, solid, List.all_cons, List.all_nil, Bool.and_true, Bool.and_self, List.length_cons, List.length_nil, List.drop_zero, List.take_succ_cons, List.take_zero, List.drop_succ_cons, Option.map_some, Option.map_none, List.cons_append, afill, rep, flat1, flat2, Int.reduceEq, Int.reduceLT, Int.reduceLE, Int.reduceNeg, Int.reduceAdd, Int.reduceSub, Int.reduceMul, Int.reduceToNat, AV.sl.injEq, and_assoc, exists_eq_left, exists_eq_left', AH.take1, List.reduceReplicate, List.flatten_cons, List.flatten_nil, List.set_cons_zero, List.set_cons_succ, aeqv, aeq, Bool.false_bne, bne_self_eq_false, Bool.true_bne, Int.cast_ofNat_Int, Int.reduceGT, Int.reduceGE]
    exact back_flat (vs := [.nils]) rfl ⟨_, rfl, .inl ⟨rfl, List.length_eq_zero_iff.1 hn, rfl⟩⟩
  · refine fin (views_flat rfl (views_nil H 8)) ?_
    simp only [Tryd.fn28, Tryd.fn28_r0, Tryd.fn28_r1, Tryd.fn28_r3, takeFrom, aapp, not_false_eq_true, Nat.reduceDiv, Nat.reduceMod, and_self, AmR, Cd_beq, Cd_bne, Cd_nbeq, Rf_beq, Rf_bne, Rf_nbeq, Df_beq, Df_bne, Df_nbeq, kp, pushA, exe, number, Arg.val, Env.at, lk, putd, AV.cells?, ok1, okM, AH.push, AH.get, abin, Option.getD_some, if_true, if_false, List.getElem?_cons_zero, List.getElem?_cons_succ, Bool.not_true, Bool.not_false, reduceIte, reduceCtorEq, Nat.reduceEqDiff, Nat.reduceAdd, Nat.reduceMul, Nat.reduceLT, Nat.reduceSub, decide_true, decide_false, Bool.false_eq_true, Bool.true_eq_false, resAll, resOf, Option.some.injEq, List.cons.injEq, AV.bool.injEq, AV.int.injEq, AV.str.injEq, and_true, true_and, List.nil_append, List.append_nil, visH, List.filter_cons, List.filter_nil, List.flatMap_nil, List.flatMap_cons, List.contains_cons, List.contains_nil, Nat.reduceBEq, Bool.or_false, Bool.or_true, Bool.false_or, Bool.true_or, Nat.reduceLeDiff, aun, List.map_cons, List.map_nil, AH.cellsAt, AH.store, AH.put, rpl, putAt, solid, List.all_cons, List.all_nil, Bool.and_true, Bool.and_self, List.length_cons, List.length_nil, List.drop_zero, List.take_succ_cons, List.take_zero, List.drop_succ_cons, Option.map_some, Option.map_none, List.cons_append, afill, rep, flat1, flat2, Int.reduceEq, Int.reduceLT, Int.reduceLE, Int.reduceNeg, Int.reduceAdd, Int.reduceSub, Int.reduceMul, Int.reduceToNat, AV.sl.injEq, and_assoc, exists_eq_left, exists_eq_left', AH.take1, List.reduceReplicate, List.flatten_cons, List.flatten_nil, List.set_cons_zero, List.set_cons_succ, aeqv, aeq, Bool.false_bne, bne_self_eq_false, Bool.true_bne, Int.cast_ofNat_Int, Int.reduceGT, Int.reduceGE]
    exact emp0 hn 8 ⟨_, _, _, _, _⟩ (Nat.le_refl _) rfl rfl rfl rfl
  · refine fin (viewS hb hlb hcs (evs_flat l) (views_nil H _)) ?_
    by_cases hl0 : l.length = 0
    · have : l = [] := List.length_eq_zero_iff.1 hl0
      subst this
      simp only [Tryd.fn28, Tryd.fn28_r0, Tryd.fn28_r1, Tryd.fn28_r3, takeFrom, aapp, rowsOf, not_false_eq_true, Nat.reduceDiv, Nat.reduceMod, and_self, AmR, Cd_beq, Cd_bne, Cd_nbeq, Rf_beq, Rf_bne, Rf_nbeq, Df_beq, Df_bne, Df_nbeq, kp, pushA, exe, number, Arg.val, Env.at, lk, putd, AV.cells?, ok1, okM, AH.push, AH.get, abin, Option.getD_some, if_true, if_false, List.getElem?_cons_zero, List.getElem?_cons_succ, Bool.not_true, Bool.not_false, reduceIte, reduceCtorEq, Nat.reduceEqDiff, Nat.reduceAdd, Nat.reduceMul, Nat.reduceLT, Nat.reduceSub, decide_true, decide_false, Bool.false_eq_true, Bool.true_eq_false, resAll, resOf, Option.some.injEq, List.cons.injEq, AV.bool.injEq, AV.int.injEq, AV.str.injEq, and_true, true_and, List.nil_append, List.append_nil, visH, List.filter_cons, List.filter_nil, List.flatMap_nil, List.flatMap_cons, List.contains_cons, List.contains_nil, Nat.reduceBEq, Bool.or_false, Bool.or_true, Bool.false_or, Bool.true_or, Nat.reduceLeDiff, aun, List.map_cons, List.map_nil, AH.cellsAt, AH.store, AH.put, rpl, putAt, solid, List.all_cons, List.all_nil, Bool.and_true, Bool.and_self, List.length_cons, List.length_nil, List.drop_zero, List.take_succ_cons, List.take_zero, List.drop_succ_cons, Option.map_some, Option.map_none, List.cons_append, afill, rep, flat1, flat2, Int.reduceEq, Int.reduceLT, Int.reduceLE, Int.reduceNeg, Int.reduceAdd, Int.reduceSub, Int.reduceMul, Int.reduceToNat, AV.sl.injEq, and_assoc, exists_eq_left, exists_eq_left', AH.take1, List.reduceReplicate, List.flatten_cons, List.flatten_nil, List.set_cons_zero, List.set_cons_succ, aeqv, aeq, Bool.false_bne, bne_self_eq_false, Bool.true_bne, Int.cast_ofNat_Int, Int.reduceGT, Int.reduceGE]
      exact emp0 rfl 9 ⟨_, _, _, _, _⟩ (Nat.le_refl _) rfl rfl rfl rfl
    · have hlen := rowsOf_length Ev.cells_len l
      have hne : rowsOf Ev.cells l ≠ [] := fun e => by rw [e] at hlen; simp at hlen; omega
      have ho : Own ⟨[(9, ⟨[], false, 23, true, true⟩), (8, ⟨rowsOf Ev.cells l, b.ro, b.ty, false, false⟩)], 10, 9⟩ 23 7 9 0 (some 0) [] := ⟨by omega, rfl, .inl rfl, Nat.le_refl _, Nat.lt_succ_self _, _, _, rfl⟩
      obtain ⟨q', H1, ha, ho', _, hq'⟩ := ho.app 64 hne (m := l.length) hlen (by omega)
      have hsol : (rowsOf Ev.cells l).all solid = true := by
        have : ∀ l : List Ev, (rowsOf Ev.cells l).all solid = true := fun l => by
          induction l with
          | nil => rfl
          | cons x l ih => simp only [rowsOf, List.flatMap_cons, List.all_append] at ih ⊢; rw [ih]; rfl
        exact this l
      have htk : (rowsOf Ev.cells l).take (l.length * 7) = rowsOf Ev.cells l := List.take_of_length_le (by omega)
      have hle : 0 + l.length * 7 ≤ (rowsOf Ev.cells l).length := by omega
      simp only [Tryd.fn28, Tryd.fn28_r0, Tryd.fn28_r1, Tryd.fn28_r3, takeFrom, htk, hle, hsol, ha, AmR, Cd_beq, Cd_bne, Cd_nbeq, Rf_beq, Rf_bne, Rf_nbeq, Df_beq, Df_bne, Df_nbeq, kp, pushA, exe, number, Arg.val, Env.at, lk, putd, AV.cells?, ok1, okM, AH.push, AH.get, abin, Option.getD_some, if_true, if_false, List.getElem?_cons_zero, List.getElem?_cons_succ, Bool.not_true, Bool.not_false, reduceIte, reduceCtorEq, Nat.reduceEqDiff, Nat.reduceAdd, Nat.reduceMul, Nat.reduceLT, Nat.reduceSub, decide_true, decide_false, Bool.false_eq_true, Bool.true_eq_false, resAll, resOf, Option.some.injEq, List.cons.injEq, AV.bool.injEq, AV.int.injEq, AV.str.injEq, and_true, true_and, List.nil_append, List.append_nil, visH, List.filter_cons, List.filter_nil, List.flatMap_nil, List.flatMap_cons, List.contains_cons, List.contains_nil, Nat.reduceBEq, Bool.or_false, Bool.or_true, Bool.false_or, Bool.true_or, Nat.reduceLeDiff, aun, List.map_cons, List.map_nil, AH.cellsAt, AH.store, AH.put, rpl, putAt, solid, List.all_cons, List.all_nil, Bool.and_true, Bool.and_self, List.length_cons, List.length_nil, List.drop_zero, List.take_succ_cons, List.take_zero, List.drop_succ_cons, Option.map_some, Option.map_none, List.cons_append, afill, rep, flat1, flat2, Int.reduceEq, Int.reduceLT, Int.reduceLE, Int.reduceNeg, Int.reduceAdd, Int.reduceSub, Int.reduceMul, Int.reduceToNat, AV.sl.injEq, and_assoc, exists_eq_left, exists_eq_left', AH.take1, List.reduceReplicate, List.flatten_cons, List.flatten_nil, List.set_cons_zero, List.set_cons_succ, aeqv, aeq, Bool.false_bne, bne_self_eq_false, Bool.true_bne, Int.cast_ofNat_Int, Int.reduceGT, Int.reduceGE]
      obtain ⟨_, hl', _, _, _, wh, s0, hg⟩ := ho'
      rw [List.nil_append] at hg
      refine back_slice (by show 9 ≤ q'; exact Nat.le_trans (by show 9 ≤ 10; omega) hq') hg rfl (evs_flat l) rfl ⟨_, rfl, .inr ⟨none, _, by rw [Nat.zero_add], rfl, rfl, rfl, rfl, .inr rfl⟩⟩

end Go.Am
