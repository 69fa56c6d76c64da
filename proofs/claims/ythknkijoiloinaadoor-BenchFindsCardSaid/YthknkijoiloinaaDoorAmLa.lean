/-
BenchFinds on the machine. Conditions: the project's sections are read from the first heap.
-/
import Derived.Test.YthknkijoiloinaaDoorAmN
set_option linter.unusedSimpArgs false
set_option linter.unusedVariables false
namespace Go.Am

theorem Tryd.lawFinds (l : List Sec) (v : AV) (k n : List UInt8) (H : AH) (hv : SecS H v l) : Tryd.call 6 [.agg [v], .str k, .str n] H = some (.ok (.bool true), H) := by
  obtain ⟨w, bs, kq, hkq, hbs, hvw, nw, hsl⟩ := hv.view (secs_flat l) 6
  have hvw1 := views_agg1 hv.notAgg (hvw (l := [.str k, .str n]) (us := [.str k, .str n]) (bs2 := []) (k2 := kq) (views_flat rfl (views_flat rfl (views_nil H kq))))
  refine ecall_flat 6 [] _ _ (out := [.bool true]) rfl rfl rfl hvw1 rfl ?_
  show W Tryd.call _ _ _ _ _
  have s1 := hsl ⟨bs, kq, kq⟩ fun i _ _ => rfl
  have hg : Grow ⟨bs, kq, kq⟩ ((⟨bs, kq, kq⟩ : AH).push 24 true [w]) := Grow.push _ _ _ _
  have s2 := SliceV.grow s1 hg fun i o z n c e => (nw i o z n c e).2
  have e1 := s1.lenS
  have gn := get_push_new ⟨bs, kq, kq⟩ 24 true [w]
  have hex := Tryd.examples
  simp only [Tryd.fn6, Tryd.fn6_r0, Tryd.fn6_r1, gn, e1, AmR, Cd_beq, Cd_bne, Cd_nbeq, Rf_beq, Rf_bne, Rf_nbeq, Df_beq, Df_bne, Df_nbeq, kp, pushA, exe, number, Arg.val, Env.at, lk, putd, AV.cells?, ok1, okM, abin, Option.getD_some, if_true, if_false, List.getElem?_cons_zero, List.getElem?_cons_succ, Bool.not_true, Bool.not_false, reduceIte, reduceCtorEq, Nat.reduceEqDiff, Nat.reduceAdd, Nat.reduceMul, Nat.reduceLT, Nat.reduceSub, decide_true, decide_false, Bool.false_eq_true, Bool.true_eq_false, resAll, resOf, Option.some.injEq, List.cons.injEq, AV.bool.injEq, AV.int.injEq, AV.str.injEq, and_true, true_and, List.nil_append, List.append_nil, visH, List.filter_cons, List.filter_nil, List.flatMap_nil, List.flatMap_cons, List.contains_cons, List.contains_nil, Nat.reduceBEq, Bool.or_false, Bool.or_true, Bool.false_or, Bool.true_or, Nat.reduceLeDiff, aun, List.map_cons, List.map_nil, putAt, solid, List.all_cons, List.all_nil, Bool.and_true, Bool.and_self, List.length_cons, List.length_nil, List.drop_zero, List.take_succ_cons, List.take_zero, List.drop_succ_cons, Option.map_some, Option.map_none, List.cons_append, afill, rep, flat1, flat2, Int.reduceEq, Int.reduceLT, Int.reduceLE, Int.reduceNeg, Int.reduceAdd, Int.reduceSub, Int.reduceMul, Int.reduceToNat, AV.sl.injEq, and_assoc, exists_eq_left, exists_eq_left', AH.take1, List.reduceReplicate, List.flatten_cons, List.flatten_nil, List.set_cons_zero, List.set_cons_succ, aeqv, aeq, Bool.false_bne, bne_self_eq_false, Bool.true_bne, Int.cast_ofNat_Int, Int.reduceGT, Int.reduceGE, ↓exe_lenl, lenS_nils, lenS_esl, lenS_sl]
  refine ⟨fun hgt => ?_, fun hle => ?_⟩
  · simp only [Tryd.fn6_r2, hex, AmR, Cd_beq, Cd_bne, Cd_nbeq, Rf_beq, Rf_bne, Rf_nbeq, Df_beq, Df_bne, Df_nbeq, kp, pushA, exe, number, Arg.val, Env.at, lk, putd, AV.cells?, ok1, okM, abin, Option.getD_some, if_true, if_false, List.getElem?_cons_zero, List.getElem?_cons_succ, Bool.not_true, Bool.not_false, reduceIte, reduceCtorEq, Nat.reduceEqDiff, Nat.reduceAdd, Nat.reduceMul, Nat.reduceLT, Nat.reduceSub, decide_true, decide_false, Bool.false_eq_true, Bool.true_eq_false, resAll, resOf, Option.some.injEq, List.cons.injEq, AV.bool.injEq, AV.int.injEq, AV.str.injEq, and_true, true_and, List.nil_append, List.append_nil, visH, List.filter_cons, List.filter_nil, List.flatMap_nil, List.flatMap_cons, List.contains_cons, List.contains_nil, Nat.reduceBEq, Bool.or_false, Bool.or_true, Bool.false_or, Bool.true_or, Nat.reduceLeDiff, aun, List.map_cons, List.map_nil, putAt, solid, List.all_cons, List.all_nil, Bool.and_true, Bool.and_self, List.length_cons, List.length_nil, List.drop_zero, List.take_succ_cons, List.take_zero, List.drop_succ_cons, Option.map_some, Option.map_none, List.cons_append, afill, rep, flat1, flat2, Int.reduceEq, Int.reduceLT, Int.reduceLE, Int.reduceNeg, Int.reduceAdd, Int.reduceSub, Int.reduceMul, Int.reduceToNat, AV.sl.injEq, and_assoc, exists_eq_left, exists_eq_left', AH.take1, List.reduceReplicate, List.flatten_cons, List.flatten_nil, List.set_cons_zero, List.set_cons_succ, aeqv, aeq, Bool.false_bne, bne_self_eq_false, Bool.true_bne, Int.cast_ofNat_Int, Int.reduceGT, Int.reduceGE, ↓exe_lenl, lenS_nils, lenS_esl, lenS_sl]
  · have hl : l.length ≤ 1000000 := by omega
    have hN : Names ((⟨bs, kq, kq⟩ : AH).push 24 true [w]) := Names.push (fun x hx => (hbs x hx).2) _ _ _
    have hnew := hN.new
    generalize (⟨bs, kq, kq⟩ : AH).push 24 true [w] = HH at *
    have gb : ∀ nx fl, (AH.mk HH.blks nx fl).cellsAt kq 0 1 = some [w] := fun nx fl => by
      unfold AH.cellsAt
      have : (AH.mk HH.blks nx fl).get kq = some ⟨[w], false, 24, true, true⟩ := gn
      rw [this]; rfl
    have f1 : ∀ nx fl, Tryd.call 14 [.agg [w], .str k, .str n] ⟨HH.blks, nx, fl⟩ = some (.ok (.int .i64 (findL k n l 0)), ⟨HH.blks, nx, fl⟩) := fun nx fl => Tryd.find l w k n _ hl (by
      rcases s2.cases with ⟨rfl, h1, h2⟩ | ⟨rfl, h1, h2⟩ | ⟨i, o, c, b, rfl, hb, hlb, hcs⟩
      · unfold SecS; rw [h1, h2]; exact .nil
      · unfold SecS; rw [h1, h2]; exact .emp
      · unfold SecS; rw [← hcs]; exact SliceV.sl (H := ⟨HH.blks, nx, fl⟩) hb hlb)
    have f2 : ∀ nx fl, Tryd.call 15 [.agg [w], .str k, .str n] ⟨HH.blks, nx, fl⟩ = some (.ok (.int .i64 (findL k n l 0)), ⟨HH.blks, nx, fl⟩) := fun nx fl => Tryd.findRef l w k n _ hl (by
      rcases s2.cases with ⟨rfl, h1, h2⟩ | ⟨rfl, h1, h2⟩ | ⟨i, o, c, b, rfl, hb, hlb, hcs⟩
      · unfold SecS; rw [h1, h2]; exact .nil
      · unfold SecS; rw [h1, h2]; exact .emp
      · unfold SecS; rw [← hcs]; exact SliceV.sl (H := ⟨HH.blks, nx, fl⟩) hb hlb)
    refine W_drawn' (by kernel_rfl) ?_
    simp only [Tryd.fn6_r3, Tryd.fn6_r3a, Tryd.fn6_r3b, gn, gb, f1, f2, hex, hnew, beq_self_eq_true, AmR, Cd_beq, Cd_bne, Cd_nbeq, Rf_beq, Rf_bne, Rf_nbeq, Df_beq, Df_bne, Df_nbeq, kp, pushA, exe, number, Arg.val, Env.at, lk, putd, AV.cells?, ok1, okM, abin, Option.getD_some, if_true, if_false, List.getElem?_cons_zero, List.getElem?_cons_succ, Bool.not_true, Bool.not_false, reduceIte, reduceCtorEq, Nat.reduceEqDiff, Nat.reduceAdd, Nat.reduceMul, Nat.reduceLT, Nat.reduceSub, decide_true, decide_false, Bool.false_eq_true, Bool.true_eq_false, resAll, resOf, Option.some.injEq, List.cons.injEq, AV.bool.injEq, AV.int.injEq, AV.str.injEq, and_true, true_and, List.nil_append, List.append_nil, visH, List.filter_cons, List.filter_nil, List.flatMap_nil, List.flatMap_cons, List.contains_cons, List.contains_nil, Nat.reduceBEq, Bool.or_false, Bool.or_true, Bool.false_or, Bool.true_or, Nat.reduceLeDiff, aun, List.map_cons, List.map_nil, putAt, solid, List.all_cons, List.all_nil, Bool.and_true, Bool.and_self, List.length_cons, List.length_nil, List.drop_zero, List.take_succ_cons, List.take_zero, List.drop_succ_cons, Option.map_some, Option.map_none, List.cons_append, afill, rep, flat1, flat2, Int.reduceEq, Int.reduceLT, Int.reduceLE, Int.reduceNeg, Int.reduceAdd, Int.reduceSub, Int.reduceMul, Int.reduceToNat, AV.sl.injEq, and_assoc, exists_eq_left, exists_eq_left', AH.take1, List.reduceReplicate, List.flatten_cons, List.flatten_nil, List.set_cons_zero, List.set_cons_succ, aeqv, aeq, Bool.false_bne, bne_self_eq_false, Bool.true_bne, Int.cast_ofNat_Int, Int.reduceGT, Int.reduceGE, ↓exe_lenl, lenS_nils, lenS_esl, lenS_sl]

end Go.Am
