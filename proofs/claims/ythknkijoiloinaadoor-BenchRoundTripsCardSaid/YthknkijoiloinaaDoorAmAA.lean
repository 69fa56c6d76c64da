/-
BenchParses on the machine. Conditions: none.
-/
import Derived.Test.YthknkijoiloinaaDoorAmZ
import Derived.Test.YthknkijoiloinaaDoorAmR
set_option linter.unusedSimpArgs false
set_option linter.unusedVariables false
namespace Go.Am

theorem aeqs_sec (x : Sec) : aeqs [(0, .none, .str), (1, .none, .str), (2, .none, .str)] x.cells x.cells = some true := by
  simp [aeqs, aeq, Sec.cells]

theorem Tryd.sameLoop (l : List Sec) (hl : l.length ≤ 1000000) (K : AX → St → Prop) (ks : List Fr) (L : ACode) (hL : L = .loop (some [2, 3, 5]) Tryd.fn13_l0) (H : AH) (hN : Names H) (p2 p3 : Nat) (b2 b3 : Blk) (v w : AV) (g2 : H.get p2 = some b2) (g3 : H.get p3 = some b3) (c2 : b2.cells = [v]) (c3 : b3.cells = [w]) (hv : SecS H v l) (hw0 : SecS H w l) :
    ∀ (n i : Nat), n + i = l.length → (∀ e, Nx Tryd.call K ks e H) →
    W Tryd.call K (.block 0 :: ks) [(2, .ptr p2 0), (3, .ptr p3 0), (5, .int .i64 i)] H L := by
  intro n
  induction n with
  | zero =>
    intro i hi hk
    refine W_loopN hL ?_
    have hi' : i = l.length := by omega
    subst hi'
    have e1 := hv.lenS
    simp only [Tryd.fn13_l0, Tryd.fn13_r4, g2, c2, e1, AmR, Cd_beq, Cd_bne, Cd_nbeq, Rf_beq, Rf_bne, Rf_nbeq, Df_beq, Df_bne, Df_nbeq, kp, pushA, exe, number, Arg.val, Env.at, lk, putd, AV.cells?, ok1, okM, abin, Option.getD_some, if_true, if_false, List.getElem?_cons_zero, List.getElem?_cons_succ, Bool.not_true, Bool.not_false, reduceIte, reduceCtorEq, Nat.reduceEqDiff, Nat.reduceAdd, Nat.reduceMul, Nat.reduceLT, Nat.reduceSub, decide_true, decide_false, Bool.false_eq_true, Bool.true_eq_false, resAll, resOf, Option.some.injEq, List.cons.injEq, AV.bool.injEq, AV.int.injEq, AV.str.injEq, and_true, true_and, List.nil_append, List.append_nil, visH, List.filter_cons, List.filter_nil, List.flatMap_nil, List.flatMap_cons, List.contains_cons, List.contains_nil, Nat.reduceBEq, Bool.or_false, Bool.or_true, Bool.false_or, Bool.true_or, Nat.reduceLeDiff, aun, List.map_cons, List.map_nil, putAt, solid, List.all_cons, List.all_nil, Bool.and_true, Bool.and_self, List.length_cons, List.length_nil, List.drop_zero, List.take_succ_cons, List.take_zero, List.drop_succ_cons, Option.map_some, Option.map_none, List.cons_append, afill, rep, flat1, flat2, Int.reduceEq, Int.reduceLT, Int.reduceLE, Int.reduceNeg, Int.reduceAdd, Int.reduceSub, Int.reduceMul, Int.reduceToNat, AV.sl.injEq, and_assoc, exists_eq_left, exists_eq_left', AH.take1, List.reduceReplicate, List.flatten_cons, List.flatten_nil, List.set_cons_zero, List.set_cons_succ, aeqv, aeq, Bool.false_bne, bne_self_eq_false, Bool.true_bne, Int.cast_ofNat_Int, Int.reduceGT, Int.reduceGE, ↓exe_lenl, lenS_nils, lenS_esl, lenS_sl]
    refine ⟨fun h => absurd h (by omega), fun _ => hk _⟩
  | succ n ih =>
    intro i hi hk
    refine W_loopN hL ?_
    obtain ⟨x, hx⟩ : ∃ x, l[i]? = some x := ⟨_, List.getElem?_eq_getElem (by omega)⟩
    have h0 : (0 : Int) ≤ (i : Int) := by omega
    have h1 : ((i : Int) < (l.length : Int)) = True := eq_true (by omega)
    have hw : IntKind.i64.wrap ((i : Int) + 1) = ((i + 1 : Nat) : Int) := by rw [IntWalk.i64_in _ (by omega)]; omega
    have hnew := hN.new
    have e1 := hv.lenS
    have he := aeqs_sec x
    have g2' : ∀ nx fl, (AH.mk H.blks nx fl).get p2 = some b2 := fun _ _ => g2
    have g3' : ∀ nx fl, (AH.mk H.blks nx fl).get p3 = some b3 := fun _ _ => g3
    rcases hv.cases with ⟨rfl, h, _⟩ | ⟨rfl, h, _⟩ | ⟨q, o, c, b, rfl, hb, hlb, hcs⟩
    · omega
    · omega
    · rcases hw0.cases with ⟨rfl, h, _⟩ | ⟨rfl, h, _⟩ | ⟨q', o', c', b', rfl, hb', hlb', hcs'⟩
      · omega
      · omega
      · have hcx : ∀ nx fl, (AH.mk H.blks nx fl).cellsAt q (o + i * 3) 3 = some x.cells := fun nx fl => cellsAt_rowO (H := ⟨H.blks, nx, fl⟩) Sec.cells_len hb hlb hcs hx
        have hcy : ∀ nx fl, (AH.mk H.blks nx fl).cellsAt q' (o' + i * 3) 3 = some x.cells := fun nx fl => cellsAt_rowO (H := ⟨H.blks, nx, fl⟩) Sec.cells_len hb' hlb' hcs' hx
        simp only [Tryd.fn13_l0, Tryd.fn13_r4, g2, c2, e1, h1, AmR, Cd_beq, Cd_bne, Cd_nbeq, Rf_beq, Rf_bne, Rf_nbeq, Df_beq, Df_bne, Df_nbeq, kp, pushA, exe, number, Arg.val, Env.at, lk, putd, AV.cells?, ok1, okM, abin, Option.getD_some, if_true, if_false, List.getElem?_cons_zero, List.getElem?_cons_succ, Bool.not_true, Bool.not_false, reduceIte, reduceCtorEq, Nat.reduceEqDiff, Nat.reduceAdd, Nat.reduceMul, Nat.reduceLT, Nat.reduceSub, decide_true, decide_false, Bool.false_eq_true, Bool.true_eq_false, resAll, resOf, Option.some.injEq, List.cons.injEq, AV.bool.injEq, AV.int.injEq, AV.str.injEq, and_true, true_and, List.nil_append, List.append_nil, visH, List.filter_cons, List.filter_nil, List.flatMap_nil, List.flatMap_cons, List.contains_cons, List.contains_nil, Nat.reduceBEq, Bool.or_false, Bool.or_true, Bool.false_or, Bool.true_or, Nat.reduceLeDiff, aun, List.map_cons, List.map_nil, putAt, solid, List.all_cons, List.all_nil, Bool.and_true, Bool.and_self, List.length_cons, List.length_nil, List.drop_zero, List.take_succ_cons, List.take_zero, List.drop_succ_cons, Option.map_some, Option.map_none, List.cons_append, afill, rep, flat1, flat2, Int.reduceEq, Int.reduceLT, Int.reduceLE, Int.reduceNeg, Int.reduceAdd, Int.reduceSub, Int.reduceMul, Int.reduceToNat, AV.sl.injEq, and_assoc, exists_eq_left, exists_eq_left', AH.take1, List.reduceReplicate, List.flatten_cons, List.flatten_nil, List.set_cons_zero, List.set_cons_succ, aeqv, aeq, Bool.false_bne, bne_self_eq_false, Bool.true_bne, Int.cast_ofNat_Int, Int.reduceGT, Int.reduceGE, ↓exe_lenl, lenS_nils, lenS_esl, lenS_sl]
        refine W_drawn' (by kernel_rfl) ?_
        simp only [Tryd.fn13_r5, Tryd.fn13_r5a, Tryd.fn13_r7, hw, hnew, h0, h1, Int.toNat_natCast, and_self, g2', g3', c2, c3, hcx, hcy, he, AmR, Cd_beq, Cd_bne, Cd_nbeq, Rf_beq, Rf_bne, Rf_nbeq, Df_beq, Df_bne, Df_nbeq, kp, pushA, exe, number, Arg.val, Env.at, lk, putd, AV.cells?, ok1, okM, abin, Option.getD_some, if_true, if_false, List.getElem?_cons_zero, List.getElem?_cons_succ, Bool.not_true, Bool.not_false, reduceIte, reduceCtorEq, Nat.reduceEqDiff, Nat.reduceAdd, Nat.reduceMul, Nat.reduceLT, Nat.reduceSub, decide_true, decide_false, Bool.false_eq_true, Bool.true_eq_false, resAll, resOf, Option.some.injEq, List.cons.injEq, AV.bool.injEq, AV.int.injEq, AV.str.injEq, and_true, true_and, List.nil_append, List.append_nil, visH, List.filter_cons, List.filter_nil, List.flatMap_nil, List.flatMap_cons, List.contains_cons, List.contains_nil, Nat.reduceBEq, Bool.or_false, Bool.or_true, Bool.false_or, Bool.true_or, Nat.reduceLeDiff, aun, List.map_cons, List.map_nil, putAt, solid, List.all_cons, List.all_nil, Bool.and_true, Bool.and_self, List.length_cons, List.length_nil, List.drop_zero, List.take_succ_cons, List.take_zero, List.drop_succ_cons, Option.map_some, Option.map_none, List.cons_append, afill, rep, flat1, flat2, Int.reduceEq, Int.reduceLT, Int.reduceLE, Int.reduceNeg, Int.reduceAdd, Int.reduceSub, Int.reduceMul, Int.reduceToNat, AV.sl.injEq, and_assoc, exists_eq_left, exists_eq_left', AH.take1, List.reduceReplicate, List.flatten_cons, List.flatten_nil, List.set_cons_zero, List.set_cons_succ, aeqv, aeq, Bool.false_bne, bne_self_eq_false, Bool.true_bne, Int.cast_ofNat_Int, Int.reduceGT, Int.reduceGE, ↓exe_lenl, lenS_nils, lenS_esl, lenS_sl]
        exact ih (i + 1) (by omega) hk

theorem views_two_agg {H : AH} {z1 z2 : Nat} {v1 v2 : AV} {n1 n2 : Nat} {cs1 cs2 : List AV} (h1 : SliceV H z1 v1 n1 cs1) (h2 : SliceV H z2 v2 n2 cs2) (f1 : cs1.all flat1 = true) (f2 : cs2.all flat1 = true) (k : Nat) :
    ∃ w1 w2 bs kq, views H [.agg [v1], .agg [v2]] k = some ([.agg [w1], .agg [w2]], bs, kq) ∧ SliceV ⟨bs ++ [], kq, kq⟩ z1 w1 n1 cs1 ∧ SliceV ⟨bs ++ [], kq, kq⟩ z2 w2 n2 cs2 ∧ Names ⟨bs ++ [], kq, kq⟩ ∧ k ≤ kq ∧
      (∀ i o z n c, w1 = .sl i o z n c → i < kq) ∧ ∀ i o z n c, w2 = .sl i o z n c → i < kq := by
  obtain ⟨w1, b1, k1, a1, a2, a3, a4, a5⟩ := h1.view f1 k
  obtain ⟨w2, b2, k2, c1, c2, c3, c4, c5⟩ := h2.view f2 k1
  have x1 := views_agg1 h2.notAgg (c3 (l := []) (us := []) (bs2 := []) (k2 := k2) (views_nil H k2))
  have x2 := views_agg1 h1.notAgg (a3 x1)
  refine ⟨w1, w2, b1 ++ (b2 ++ []), k2, x2, a5 _ fun i hi hi' => ?_, c5 _ fun i hi hi' => ?_, fun x hx => ?_, by omega, fun i o z n c e => by have := a4 i o z n c e; omega, fun i o z n c e => by have := c4 i o z n c e; omega⟩
  · show lk (b1 ++ (b2 ++ []) ++ []) i = lk b1 i
    rw [List.append_nil, List.append_nil, lk_app, lk_none (l := b2) fun x hx => by have := c2 x hx; omega]
    cases lk b1 i <;> rfl
  · show lk (b1 ++ (b2 ++ []) ++ []) i = lk b2 i
    rw [List.append_nil, List.append_nil, lk_app, lk_none (l := b1) fun x hx => by have := a2 x hx; omega]
    rfl
  · show x.1 < k2
    rw [List.append_nil, List.append_nil] at hx
    rcases List.mem_append.1 hx with hx | hx
    · have := a2 x hx; omega
    · exact (c2 x hx).2

theorem Tryd.same (l : List Sec) (v w : AV) (H : AH) (hl : l.length ≤ 1000000) (hv : SecS H v l) (hw : SecS H w l) : Tryd.call 13 [.agg [v], .agg [w]] H = some (.ok (.bool true), H) := by
  obtain ⟨v', w', bs, kq, hvw, s1, s2, hN, _, n1, n2⟩ := views_two_agg hv hw (secs_flat l) (secs_flat l) 6
  refine ecall_flat 6 [] _ _ (out := [.bool true]) rfl rfl rfl hvw rfl ?_
  show W Tryd.call _ _ _ _ _
  generalize hH : (⟨bs ++ [], kq, kq⟩ : AH) = H0 at s1 s2 hN ⊢
  have hn : H0.next = kq := by rw [← hH]
  subst hn
  have t1 := (s1.grow (Grow.push H0 24 true [v']) n1).grow (Grow.push _ 24 true [w']) fun i o z n c e => Nat.lt_succ_of_lt (n1 i o z n c e)
  have t2 := (s2.grow (Grow.push H0 24 true [v']) n2).grow (Grow.push _ 24 true [w']) fun i o z n c e => Nat.lt_succ_of_lt (n2 i o z n c e)
  have g2 : ((H0.push 24 true [v']).push 24 true [w']).get H0.next = some ⟨[v'], false, 24, true, true⟩ := (get_push_old _ _ _ _ (Nat.lt_succ_self _)).trans (get_push_new _ _ _ _)
  have g3 : ((H0.push 24 true [v']).push 24 true [w']).get (H0.push 24 true [v']).next = some ⟨[w'], false, 24, true, true⟩ := get_push_new _ _ _ _
  have e1 := t1.lenS
  have e2 := t2.lenS
  simp only [Tryd.fn13, Tryd.fn13_r0, Tryd.fn13_r1, Tryd.fn13_r3, g2, g3, e1, e2, bne_self_eq_false, AmR, Cd_beq, Cd_bne, Cd_nbeq, Rf_beq, Rf_bne, Rf_nbeq, Df_beq, Df_bne, Df_nbeq, kp, pushA, exe, number, Arg.val, Env.at, lk, putd, AV.cells?, ok1, okM, abin, Option.getD_some, if_true, if_false, List.getElem?_cons_zero, List.getElem?_cons_succ, Bool.not_true, Bool.not_false, reduceIte, reduceCtorEq, Nat.reduceEqDiff, Nat.reduceAdd, Nat.reduceMul, Nat.reduceLT, Nat.reduceSub, decide_true, decide_false, Bool.false_eq_true, Bool.true_eq_false, resAll, resOf, Option.some.injEq, List.cons.injEq, AV.bool.injEq, AV.int.injEq, AV.str.injEq, and_true, true_and, List.nil_append, List.append_nil, visH, List.filter_cons, List.filter_nil, List.flatMap_nil, List.flatMap_cons, List.contains_cons, List.contains_nil, Nat.reduceBEq, Bool.or_false, Bool.or_true, Bool.false_or, Bool.true_or, Nat.reduceLeDiff, aun, List.map_cons, List.map_nil, putAt, solid, List.all_cons, List.all_nil, Bool.and_true, Bool.and_self, List.length_cons, List.length_nil, List.drop_zero, List.take_succ_cons, List.take_zero, List.drop_succ_cons, Option.map_some, Option.map_none, List.cons_append, afill, rep, flat1, flat2, Int.reduceEq, Int.reduceLT, Int.reduceLE, Int.reduceNeg, Int.reduceAdd, Int.reduceSub, Int.reduceMul, Int.reduceToNat, AV.sl.injEq, and_assoc, exists_eq_left, exists_eq_left', AH.take1, List.reduceReplicate, List.flatten_cons, List.flatten_nil, List.set_cons_zero, List.set_cons_succ, aeqv, aeq, Bool.false_bne, bne_self_eq_false, Bool.true_bne, Int.cast_ofNat_Int, Int.reduceGT, Int.reduceGE, ↓exe_lenl, lenS_nils, lenS_esl, lenS_sl]
  refine Tryd.sameLoop l hl _ _ _ rfl _ ((hN.push _ _ _).push _ _ _) _ _ _ _ v' w' g2 g3 rfl rfl t1 t2 l.length 0 (by omega) ?_
  intro e
  simp only [Tryd.fn13_r8, AmR, Cd_beq, Cd_bne, Cd_nbeq, Rf_beq, Rf_bne, Rf_nbeq, Df_beq, Df_bne, Df_nbeq, kp, pushA, exe, number, Arg.val, Env.at, lk, putd, AV.cells?, ok1, okM, abin, Option.getD_some, if_true, if_false, List.getElem?_cons_zero, List.getElem?_cons_succ, Bool.not_true, Bool.not_false, reduceIte, reduceCtorEq, Nat.reduceEqDiff, Nat.reduceAdd, Nat.reduceMul, Nat.reduceLT, Nat.reduceSub, decide_true, decide_false, Bool.false_eq_true, Bool.true_eq_false, resAll, resOf, Option.some.injEq, List.cons.injEq, AV.bool.injEq, AV.int.injEq, AV.str.injEq, and_true, true_and, List.nil_append, List.append_nil, visH, List.filter_cons, List.filter_nil, List.flatMap_nil, List.flatMap_cons, List.contains_cons, List.contains_nil, Nat.reduceBEq, Bool.or_false, Bool.or_true, Bool.false_or, Bool.true_or, Nat.reduceLeDiff, aun, List.map_cons, List.map_nil, putAt, solid, List.all_cons, List.all_nil, Bool.and_true, Bool.and_self, List.length_cons, List.length_nil, List.drop_zero, List.take_succ_cons, List.take_zero, List.drop_succ_cons, Option.map_some, Option.map_none, List.cons_append, afill, rep, flat1, flat2, Int.reduceEq, Int.reduceLT, Int.reduceLE, Int.reduceNeg, Int.reduceAdd, Int.reduceSub, Int.reduceMul, Int.reduceToNat, AV.sl.injEq, and_assoc, exists_eq_left, exists_eq_left', AH.take1, List.reduceReplicate, List.flatten_cons, List.flatten_nil, List.set_cons_zero, List.set_cons_succ, aeqv, aeq, Bool.false_bne, bne_self_eq_false, Bool.true_bne, Int.cast_ofNat_Int, Int.reduceGT, Int.reduceGE, ↓exe_lenl, lenS_nils, lenS_esl, lenS_sl]

theorem parseF_small : ∀ (f : Nat) (s : List UInt8) (l : List Sec) (line : Nat), (parseF f s l line).1.length ≤ l.length + s.length ∧ (parseF f s l line).2.1 ≤ line + s.length
  | 0, s, l, line => by simp [parseF]
  | f + 1, s, l, line => by
    unfold parseF
    split
    · simp
    · split
      · simp
      · rename_i x v r h
        have h1 := parseF_small f r (l ++ [x]) (line + v + 1)
        have h2 := (secL_len h).1
        rw [List.length_append, List.length_singleton] at h1
        omega

theorem SliceV.solid {H : AH} {z : Nat} {v : AV} {n : Nat} {cs : List AV} (h : SliceV H z v n cs) : [v].all Am.solid = true := by cases h <;> rfl

theorem Tryd.lawParses (s : List UInt8) (H : AH) : Tryd.call 4 [.str s] H = some (.ok (.bool true), H) := by
  refine ecall_flat 6 [] _ _ (out := [.bool true]) rfl rfl rfl (views_flat rfl (views_nil H 6)) rfl ?_
  show W Tryd.call _ _ _ _ _
  have hex := Tryd.examples
  simp only [Tryd.fn4, Tryd.fn4_r0, Tryd.fn4_r1, AmR, Cd_beq, Cd_bne, Cd_nbeq, Rf_beq, Rf_bne, Rf_nbeq, Df_beq, Df_bne, Df_nbeq, kp, pushA, exe, number, Arg.val, Env.at, lk, putd, AV.cells?, ok1, okM, abin, Option.getD_some, if_true, if_false, List.getElem?_cons_zero, List.getElem?_cons_succ, Bool.not_true, Bool.not_false, reduceIte, reduceCtorEq, Nat.reduceEqDiff, Nat.reduceAdd, Nat.reduceMul, Nat.reduceLT, Nat.reduceSub, decide_true, decide_false, Bool.false_eq_true, Bool.true_eq_false, resAll, resOf, Option.some.injEq, List.cons.injEq, AV.bool.injEq, AV.int.injEq, AV.str.injEq, and_true, true_and, List.nil_append, List.append_nil, visH, List.filter_cons, List.filter_nil, List.flatMap_nil, List.flatMap_cons, List.contains_cons, List.contains_nil, Nat.reduceBEq, Bool.or_false, Bool.or_true, Bool.false_or, Bool.true_or, Nat.reduceLeDiff, aun, List.map_cons, List.map_nil, putAt, solid, List.all_cons, List.all_nil, Bool.and_true, Bool.and_self, List.length_cons, List.length_nil, List.drop_zero, List.take_succ_cons, List.take_zero, List.drop_succ_cons, Option.map_some, Option.map_none, List.cons_append, afill, rep, flat1, flat2, Int.reduceEq, Int.reduceLT, Int.reduceLE, Int.reduceNeg, Int.reduceAdd, Int.reduceSub, Int.reduceMul, Int.reduceToNat, AV.sl.injEq, and_assoc, exists_eq_left, exists_eq_left', AH.take1, List.reduceReplicate, List.flatten_cons, List.flatten_nil, List.set_cons_zero, List.set_cons_succ, aeqv, aeq, Bool.false_bne, bne_self_eq_false, Bool.true_bne, Int.cast_ofNat_Int, Int.reduceGT, Int.reduceGE, ↓exe_lenl, lenS_nils, lenS_esl, lenS_sl]
  refine ⟨fun h => ?_, fun h => ?_⟩
  · simp only [Tryd.fn4_r2, hex, AmR, Cd_beq, Cd_bne, Cd_nbeq, Rf_beq, Rf_bne, Rf_nbeq, Df_beq, Df_bne, Df_nbeq, kp, pushA, exe, number, Arg.val, Env.at, lk, putd, AV.cells?, ok1, okM, abin, Option.getD_some, if_true, if_false, List.getElem?_cons_zero, List.getElem?_cons_succ, Bool.not_true, Bool.not_false, reduceIte, reduceCtorEq, Nat.reduceEqDiff, Nat.reduceAdd, Nat.reduceMul, Nat.reduceLT, Nat.reduceSub, decide_true, decide_false, Bool.false_eq_true, Bool.true_eq_false, resAll, resOf, Option.some.injEq, List.cons.injEq, AV.bool.injEq, AV.int.injEq, AV.str.injEq, and_true, true_and, List.nil_append, List.append_nil, visH, List.filter_cons, List.filter_nil, List.flatMap_nil, List.flatMap_cons, List.contains_cons, List.contains_nil, Nat.reduceBEq, Bool.or_false, Bool.or_true, Bool.false_or, Bool.true_or, Nat.reduceLeDiff, aun, List.map_cons, List.map_nil, putAt, solid, List.all_cons, List.all_nil, Bool.and_true, Bool.and_self, List.length_cons, List.length_nil, List.drop_zero, List.take_succ_cons, List.take_zero, List.drop_succ_cons, Option.map_some, Option.map_none, List.cons_append, afill, rep, flat1, flat2, Int.reduceEq, Int.reduceLT, Int.reduceLE, Int.reduceNeg, Int.reduceAdd, Int.reduceSub, Int.reduceMul, Int.reduceToNat, AV.sl.injEq, and_assoc, exists_eq_left, exists_eq_left', AH.take1, List.reduceReplicate, List.flatten_cons, List.flatten_nil, List.set_cons_zero, List.set_cons_succ, aeqv, aeq, Bool.false_bne, bne_self_eq_false, Bool.true_bne, Int.cast_ofNat_Int, Int.reduceGT, Int.reduceGE, ↓exe_lenl, lenS_nils, lenS_esl, lenS_sl]
  · have hN : Names ⟨[], 6, 6⟩ := fun x hx => by cases hx
    obtain ⟨vs, H1, c1, v1, rfl, ss1, g1, n1, lt1⟩ := Tryd.parse s (by omega) ⟨[], 6, 6⟩ hN (Nat.le_refl _)
    have hf1 : H1.floor ≤ H1.next := by have h1 := g1.1; have h2 := g1.2.1; simp only at h1 h2; omega
    obtain ⟨vs, H2, c2, v2, rfl, ss2, g2, n2, lt2⟩ := Tryd.parseRef s (by omega) (H1.push 24 true [v1]) (n1.push _ _ _) (Nat.le_succ_of_le hf1)
    have hf2 : H2.floor ≤ H2.next := by have h1 := g2.1; have h2 := g2.2.1; have h3 : (H1.push 24 true [v1]).floor = H1.floor := rfl; have h4 : (H1.push 24 true [v1]).next = H1.next + 1 := rfl; omega
    have sm := parseF_small s.length s [] 1
    rw [List.length_nil] at sm
    change (parseL s).1.length ≤ _ ∧ (parseL s).2.1 ≤ _ at sm
    generalize parseL s = o at *
    obtain ⟨l, line, err⟩ := o
    simp only [pack] at c1 c2
    simp only at ss1 ss2 sm
    have st1 := store_push H1 24 true [.nils] [v1] hf1 rfl ss1.solid
    have st2 := store_push H2 24 true [.nils] [v2] hf2 rfl ss2.solid
    have lt1' : ∀ i o z n c, v1 = .sl i o z n c → i < (H1.push 24 true [v1]).next := fun i o z n c e => Nat.lt_succ_of_lt (lt1 i o z n c e)
    have lt1'' : ∀ i o z n c, v1 = .sl i o z n c → i < H2.next := fun i o z n c e => Nat.lt_of_lt_of_le (lt1' i o z n c e) g2.2.1
    have sa : SecS (H2.push 24 true [v2]) v1 l := ((SliceV.grow ss1 (Grow.push H1 24 true [v1]) lt1).grow g2 lt1').grow (Grow.push H2 24 true [v2]) lt1''
    have sb : SecS (H2.push 24 true [v2]) v2 l := SliceV.grow ss2 (Grow.push H2 24 true [v2]) lt2
    have hsm := Tryd.same l v1 v2 _ (by omega) sa sb
    have ca : (H2.push 24 true [v2]).cellsAt H1.next 0 1 = some [v1] := by
      unfold AH.cellsAt
      rw [get_push_old _ _ _ _ (Nat.lt_of_lt_of_le (Nat.lt_succ_self _) g2.2.1), g2.2.2 _ (Nat.lt_succ_self _), get_push_new]
      rfl
    have cb : (H2.push 24 true [v2]).cellsAt H2.next 0 1 = some [v2] := cellsAt_new _ _ _ _ rfl
    simp only [Tryd.fn4_r3, c1, st1, AmR, Cd_beq, Cd_bne, Cd_nbeq, Rf_beq, Rf_bne, Rf_nbeq, Df_beq, Df_bne, Df_nbeq, kp, pushA, exe, number, Arg.val, Env.at, lk, putd, AV.cells?, ok1, okM, abin, Option.getD_some, if_true, if_false, List.getElem?_cons_zero, List.getElem?_cons_succ, Bool.not_true, Bool.not_false, reduceIte, reduceCtorEq, Nat.reduceEqDiff, Nat.reduceAdd, Nat.reduceMul, Nat.reduceLT, Nat.reduceSub, decide_true, decide_false, Bool.false_eq_true, Bool.true_eq_false, resAll, resOf, Option.some.injEq, List.cons.injEq, AV.bool.injEq, AV.int.injEq, AV.str.injEq, and_true, true_and, List.nil_append, List.append_nil, visH, List.filter_cons, List.filter_nil, List.flatMap_nil, List.flatMap_cons, List.contains_cons, List.contains_nil, Nat.reduceBEq, Bool.or_false, Bool.or_true, Bool.false_or, Bool.true_or, Nat.reduceLeDiff, aun, List.map_cons, List.map_nil, putAt, solid, List.all_cons, List.all_nil, Bool.and_true, Bool.and_self, List.length_cons, List.length_nil, List.drop_zero, List.take_succ_cons, List.take_zero, List.drop_succ_cons, Option.map_some, Option.map_none, List.cons_append, afill, rep, flat1, flat2, Int.reduceEq, Int.reduceLT, Int.reduceLE, Int.reduceNeg, Int.reduceAdd, Int.reduceSub, Int.reduceMul, Int.reduceToNat, AV.sl.injEq, and_assoc, exists_eq_left, exists_eq_left', AH.take1, List.reduceReplicate, List.flatten_cons, List.flatten_nil, List.set_cons_zero, List.set_cons_succ, aeqv, aeq, Bool.false_bne, bne_self_eq_false, Bool.true_bne, Int.cast_ofNat_Int, Int.reduceGT, Int.reduceGE, ↓exe_lenl, lenS_nils, lenS_esl, lenS_sl]
    simp only [Tryd.fn4_r4, c2, st2, AmR, Cd_beq, Cd_bne, Cd_nbeq, Rf_beq, Rf_bne, Rf_nbeq, Df_beq, Df_bne, Df_nbeq, kp, pushA, exe, number, Arg.val, Env.at, lk, putd, AV.cells?, ok1, okM, abin, Option.getD_some, if_true, if_false, List.getElem?_cons_zero, List.getElem?_cons_succ, Bool.not_true, Bool.not_false, reduceIte, reduceCtorEq, Nat.reduceEqDiff, Nat.reduceAdd, Nat.reduceMul, Nat.reduceLT, Nat.reduceSub, decide_true, decide_false, Bool.false_eq_true, Bool.true_eq_false, resAll, resOf, Option.some.injEq, List.cons.injEq, AV.bool.injEq, AV.int.injEq, AV.str.injEq, and_true, true_and, List.nil_append, List.append_nil, visH, List.filter_cons, List.filter_nil, List.flatMap_nil, List.flatMap_cons, List.contains_cons, List.contains_nil, Nat.reduceBEq, Bool.or_false, Bool.or_true, Bool.false_or, Bool.true_or, Nat.reduceLeDiff, aun, List.map_cons, List.map_nil, putAt, solid, List.all_cons, List.all_nil, Bool.and_true, Bool.and_self, List.length_cons, List.length_nil, List.drop_zero, List.take_succ_cons, List.take_zero, List.drop_succ_cons, Option.map_some, Option.map_none, List.cons_append, afill, rep, flat1, flat2, Int.reduceEq, Int.reduceLT, Int.reduceLE, Int.reduceNeg, Int.reduceAdd, Int.reduceSub, Int.reduceMul, Int.reduceToNat, AV.sl.injEq, and_assoc, exists_eq_left, exists_eq_left', AH.take1, List.reduceReplicate, List.flatten_cons, List.flatten_nil, List.set_cons_zero, List.set_cons_succ, aeqv, aeq, Bool.false_bne, bne_self_eq_false, Bool.true_bne, Int.cast_ofNat_Int, Int.reduceGT, Int.reduceGE, ↓exe_lenl, lenS_nils, lenS_esl, lenS_sl]
    simp only [Tryd.fn4_r5, Tryd.fn4_r6, ca, cb, hsm, hex, beq_self_eq_true, AmR, Cd_beq, Cd_bne, Cd_nbeq, Rf_beq, Rf_bne, Rf_nbeq, Df_beq, Df_bne, Df_nbeq, kp, pushA, exe, number, Arg.val, Env.at, lk, putd, AV.cells?, ok1, okM, abin, Option.getD_some, if_true, if_false, List.getElem?_cons_zero, List.getElem?_cons_succ, Bool.not_true, Bool.not_false, reduceIte, reduceCtorEq, Nat.reduceEqDiff, Nat.reduceAdd, Nat.reduceMul, Nat.reduceLT, Nat.reduceSub, decide_true, decide_false, Bool.false_eq_true, Bool.true_eq_false, resAll, resOf, Option.some.injEq, List.cons.injEq, AV.bool.injEq, AV.int.injEq, AV.str.injEq, and_true, true_and, List.nil_append, List.append_nil, visH, List.filter_cons, List.filter_nil, List.flatMap_nil, List.flatMap_cons, List.contains_cons, List.contains_nil, Nat.reduceBEq, Bool.or_false, Bool.or_true, Bool.false_or, Bool.true_or, Nat.reduceLeDiff, aun, List.map_cons, List.map_nil, putAt, solid, List.all_cons, List.all_nil, Bool.and_true, Bool.and_self, List.length_cons, List.length_nil, List.drop_zero, List.take_succ_cons, List.take_zero, List.drop_succ_cons, Option.map_some, Option.map_none, List.cons_append, afill, rep, flat1, flat2, Int.reduceEq, Int.reduceLT, Int.reduceLE, Int.reduceNeg, Int.reduceAdd, Int.reduceSub, Int.reduceMul, Int.reduceToNat, AV.sl.injEq, and_assoc, exists_eq_left, exists_eq_left', AH.take1, List.reduceReplicate, List.flatten_cons, List.flatten_nil, List.set_cons_zero, List.set_cons_succ, aeqv, aeq, Bool.false_bne, bne_self_eq_false, Bool.true_bne, Int.cast_ofNat_Int, Int.reduceGT, Int.reduceGE, ↓exe_lenl, lenS_nils, lenS_esl, lenS_sl]

end Go.Am
