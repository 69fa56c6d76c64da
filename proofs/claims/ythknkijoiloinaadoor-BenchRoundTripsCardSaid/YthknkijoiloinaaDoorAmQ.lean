/-
Print. Conditions: the sections are read from the first heap; they are few and short.
-/
import Derived.Test.YthknkijoiloinaaDoorAmP
import Derived.Test.YthknkijoiloinaaDoorAmW
import Derived.Lib.ItoaLen
set_option linter.unusedSimpArgs false
set_option linter.unusedVariables false
namespace Go.Am

/-- A section as text. -/
def secText (x : Sec) : List UInt8 := [61, 61, 32] ++ x.k ++ [32] ++ x.n ++ [32] ++ Lib.itoa (Lib.countByte x.t 10) ++ [10] ++ x.t
/-- The first error of sections by themselves. -/
def errL : List Sec → Int
  | [] => 0
  | x :: l => if formL x = 0 then errL l else formL x
def printL (l : List Sec) : List UInt8 := l.flatMap secText

theorem kindB_len {k : List UInt8} (h : kindB k = true) : k.length ≤ 7 := by
  simp only [kindB, Bool.or_eq_true, beq_iff_eq] at h
  rcases h with rfl | rfl | rfl | rfl | rfl <;> simp
theorem nameB_len {n : List UInt8} (h : nameB n = true) : n.length ≤ 16 := by
  unfold nameB at h
  split at h
  · cases h
  · simp only [Bool.and_eq_true, decide_eq_true_eq] at h; exact h.1.1
theorem formL_ok {x : Sec} (h : formL x = 0) : kindB x.k = true ∧ nameB x.n = true := by
  unfold formL at h
  cases hk : kindB x.k with
  | false => rw [hk] at h; simp at h
  | true =>
    cases hn : nameB x.n with
    | false => rw [hk, hn] at h; simp at h
    | true => exact ⟨rfl, rfl⟩

theorem count_le (t : List UInt8) : Lib.countByte t 10 ≤ t.length := List.count_le_length

theorem itoa_count {t : List UInt8} (ht : t.length ≤ 1000000) : (Lib.itoa (Lib.countByte t 10)).length ≤ 21 := by
  have := count_le t
  exact Lib.itoa_length_le _ (by omega) (by omega)

theorem secText_len {x : Sec} (h : formL x = 0) (ht : x.t.length ≤ 1000000) : (secText x).length ≤ x.t.length + 60 := by
  obtain ⟨hk, hn⟩ := formL_ok h
  have h1 := kindB_len hk
  have h2 := nameB_len hn
  have h3 := itoa_count ht
  simp only [secText, List.length_append, List.length_cons, List.length_nil]
  omega

theorem printL_len : ∀ {l : List Sec}, errL l = 0 → (∀ x ∈ l, x.t.length ≤ 1000000) → (printL l).length ≤ l.length * 1000060
  | [], _, _ => by simp [printL]
  | x :: l, h, ht => by
    unfold errL at h
    split at h
    · rename_i hx
      have h1 := secText_len hx (ht x (by simp))
      have h2 := printL_len h fun y hy => ht y (by simp [hy])
      have h3 := ht x (by simp)
      simp only [printL, List.flatMap_cons, List.length_append, List.length_cons] at h2 ⊢
      omega
    · rename_i hx; exact absurd h hx

theorem Tryd.itoa (n : Int) (H : AH) (h0 : -9223372036854775808 ≤ n) (h1 : n ≤ 9223372036854775807) : Tryd.call 18 [.int .i64 n] H = some (.ok (.str (Lib.itoa n)), H) := by
  refine ecall_ext 6 [] _ _ (g := gItoa) rfl _ H ?_
  show (if -9223372036854775808 ≤ n ∧ n ≤ 9223372036854775807 then ok1 H (.str (itoaF n)) else none) = _
  rw [if_pos ⟨h0, h1⟩, itoaF_eq h0 h1]
  rfl

theorem Tryd.count (s : List UInt8) (c : UInt8) (H : AH) : Tryd.call 19 [.str s, .str [c]] H = some (.ok (.int .i64 (Lib.countByte s c)), H) :=
  ecall_ext 6 [] _ _ (g := gCount) rfl _ H rfl

theorem Tryd.lines (s : List UInt8) (H : AH) : Tryd.call 22 [.str s] H = some (.ok (.int .i64 (Lib.countByte s 10)), H) := by
  refine ecall_W 6 [] _ _ (out := [.int .i64 (Lib.countByte s 10)]) rfl rfl rfl ?_
  show W Tryd.call _ _ _ _ _
  have h := Tryd.count s 10
  simp only [Tryd.fn22, Tryd.fn22_r0, Tryd.fn22_r1, h, exactK_ret, AmR, Cd_beq, Cd_bne, Cd_nbeq, Rf_beq, Rf_bne, Rf_nbeq, Df_beq, Df_bne, Df_nbeq, kp, pushA, exe, number, Arg.val, Env.at, lk, putd, AV.cells?, ok1, okM, abin, Option.getD_some, if_true, if_false, List.getElem?_cons_zero, List.getElem?_cons_succ, Bool.not_true, Bool.not_false, reduceIte, reduceCtorEq, Nat.reduceEqDiff, Nat.reduceAdd, Nat.reduceMul, Nat.reduceLT, Nat.reduceSub, decide_true, decide_false, Bool.false_eq_true, Bool.true_eq_false, resAll, resOf, Option.some.injEq, List.cons.injEq, AV.bool.injEq, AV.int.injEq, AV.str.injEq, and_true, true_and, List.nil_append, List.append_nil, visH, List.filter_cons, List.filter_nil, List.flatMap_nil, List.flatMap_cons, List.contains_cons, List.contains_nil, Nat.reduceBEq, Bool.or_false, Bool.or_true, Bool.false_or, Bool.true_or, Nat.reduceLeDiff, aun, List.map_cons, List.map_nil, putAt, solid, List.all_cons, List.all_nil, Bool.and_true, Bool.and_self, List.length_cons, List.length_nil, List.drop_zero, List.take_succ_cons, List.take_zero, List.drop_succ_cons, Option.map_some, Option.map_none, List.cons_append, afill, rep, flat1, flat2, Int.reduceEq, Int.reduceLT, Int.reduceLE, Int.reduceNeg, Int.reduceAdd, Int.reduceSub, Int.reduceMul, Int.reduceToNat, AV.sl.injEq, and_assoc, exists_eq_left, exists_eq_left', AH.take1, List.reduceReplicate, List.flatten_cons, List.flatten_nil, List.set_cons_zero, List.set_cons_succ, aeqv, aeq, Bool.false_bne, bne_self_eq_false, Bool.true_bne, Int.cast_ofNat_Int, Int.reduceGT, Int.reduceGE, ↓exe_lenl, lenS_nils, lenS_esl, lenS_sl]

theorem Tryd.printLoop1 (l : List Sec) (hl : l.length ≤ 1000000) (ht : ∀ x ∈ l, x.t.length ≤ 1000000) (K : AX → St → Prop) (ks : List Fr) (L : ACode) (hL : L = .loop (some [1, 11, 12, 13]) Tryd.fn9_l1) (H0 : AH) (hf0 : H0.floor ≤ H0.next) (p : Nat) (v : AV) (hv : SecS H0 v l) (nv : ∀ i o z n c, v = .sl i o z n c → i < H0.next) :
    ∀ (m i : Nat) (H : AH), m + i = l.length → Grow H0 H → Names H → (errL (l.drop i) = 0 → ∀ H' w, Grow H0 H' → Names H' → Nx Tryd.call K ks [(14, .bool false), (1, .ptr p 0), (11, v), (12, .int .i64 l.length), (13, .int .i64 l.length), (14, w)] H') → (errL (l.drop i) ≠ 0 → ∀ e H, e.at 2 = .str [] → e.at 3 = .int .i64 (errL (l.drop i)) → Rt Tryd.call K ks e H) →
    W Tryd.call K (.block 0 :: ks) [(1, .ptr p 0), (11, v), (12, .int .i64 l.length), (13, .int .i64 i)] H L := by
  intro m
  induction m with
  | zero =>
    intro i H hi hg hN hk hr
    refine W_loopN hL ?_
    have hi' : i = l.length := by omega
    subst hi'
    simp only [Tryd.fn9_l1, Tryd.fn9_r2, AmR, Cd_beq, Cd_bne, Cd_nbeq, Rf_beq, Rf_bne, Rf_nbeq, Df_beq, Df_bne, Df_nbeq, kp, pushA, exe, number, Arg.val, Env.at, lk, putd, AV.cells?, ok1, okM, abin, Option.getD_some, if_true, if_false, List.getElem?_cons_zero, List.getElem?_cons_succ, Bool.not_true, Bool.not_false, reduceIte, reduceCtorEq, Nat.reduceEqDiff, Nat.reduceAdd, Nat.reduceMul, Nat.reduceLT, Nat.reduceSub, decide_true, decide_false, Bool.false_eq_true, Bool.true_eq_false, resAll, resOf, Option.some.injEq, List.cons.injEq, AV.bool.injEq, AV.int.injEq, AV.str.injEq, and_true, true_and, List.nil_append, List.append_nil, visH, List.filter_cons, List.filter_nil, List.flatMap_nil, List.flatMap_cons, List.contains_cons, List.contains_nil, Nat.reduceBEq, Bool.or_false, Bool.or_true, Bool.false_or, Bool.true_or, Nat.reduceLeDiff, aun, List.map_cons, List.map_nil, putAt, solid, List.all_cons, List.all_nil, Bool.and_true, Bool.and_self, List.length_cons, List.length_nil, List.drop_zero, List.take_succ_cons, List.take_zero, List.drop_succ_cons, Option.map_some, Option.map_none, List.cons_append, afill, rep, flat1, flat2, Int.reduceEq, Int.reduceLT, Int.reduceLE, Int.reduceNeg, Int.reduceAdd, Int.reduceSub, Int.reduceMul, Int.reduceToNat, AV.sl.injEq, and_assoc, exists_eq_left, exists_eq_left', AH.take1, List.reduceReplicate, List.flatten_cons, List.flatten_nil, List.set_cons_zero, List.set_cons_succ, aeqv, aeq, Bool.false_bne, bne_self_eq_false, Bool.true_bne, Int.cast_ofNat_Int, Int.reduceGT, Int.reduceGE, ↓exe_lenl, lenS_nils, lenS_esl, lenS_sl]
    refine ⟨fun h => absurd h (by omega), fun _ => hk (by rw [List.drop_length]; rfl) _ _ hg hN⟩
  | succ m ih =>
    intro i H hi hg hN hk hr
    refine W_loopN hL ?_
    obtain ⟨x, hx⟩ : ∃ x, l[i]? = some x := ⟨_, List.getElem?_eq_getElem (by omega)⟩
    have hd := drop_cons hx
    have htx := ht x (List.mem_of_getElem? hx)
    have h0 : (0 : Int) ≤ (i : Int) := by omega
    have h1 : ((i : Int) < (l.length : Int)) = True := eq_true (by omega)
    have hw : IntKind.i64.wrap ((i : Int) + 1) = ((i + 1 : Nat) : Int) := by rw [IntWalk.i64_in _ (by omega)]; omega
    have hfl : H.floor ≤ H.next := by have := hg.1; have := hg.2.1; omega
    have hv1 := SliceV.grow hv hg nv
    have hg1 : Grow H0 (H.push 38 true x.cells) := hg.trans (Grow.push _ _ _ _)
    have st := store_push H 38 true [.str [], .str [], .str []] x.cells hfl rfl rfl
    have cn : (H.push 38 true x.cells).cellsAt H.next 0 3 = some x.cells := by
      unfold AH.cellsAt
      rw [get_push_new]
      rfl
    have hfm := Tryd.form x (H.push 38 true x.cells) htx
    rcases hv1.cases with ⟨rfl, h, _⟩ | ⟨rfl, h, _⟩ | ⟨q, o, c, b, rfl, hb, hlb, hcb⟩
    · omega
    · omega
    · have cm : H.cellsAt q (o + i * 3) 3 = some x.cells := cellsAt_rowO Sec.cells_len hb hlb hcb hx
      have l3 := Sec.cells_len x
      simp only [Tryd.fn9_l1, Tryd.fn9_r2, h1, AmR, Cd_beq, Cd_bne, Cd_nbeq, Rf_beq, Rf_bne, Rf_nbeq, Df_beq, Df_bne, Df_nbeq, kp, pushA, exe, number, Arg.val, Env.at, lk, putd, AV.cells?, ok1, okM, abin, Option.getD_some, if_true, if_false, List.getElem?_cons_zero, List.getElem?_cons_succ, Bool.not_true, Bool.not_false, reduceIte, reduceCtorEq, Nat.reduceEqDiff, Nat.reduceAdd, Nat.reduceMul, Nat.reduceLT, Nat.reduceSub, decide_true, decide_false, Bool.false_eq_true, Bool.true_eq_false, resAll, resOf, Option.some.injEq, List.cons.injEq, AV.bool.injEq, AV.int.injEq, AV.str.injEq, and_true, true_and, List.nil_append, List.append_nil, visH, List.filter_cons, List.filter_nil, List.flatMap_nil, List.flatMap_cons, List.contains_cons, List.contains_nil, Nat.reduceBEq, Bool.or_false, Bool.or_true, Bool.false_or, Bool.true_or, Nat.reduceLeDiff, aun, List.map_cons, List.map_nil, putAt, solid, List.all_cons, List.all_nil, Bool.and_true, Bool.and_self, List.length_cons, List.length_nil, List.drop_zero, List.take_succ_cons, List.take_zero, List.drop_succ_cons, Option.map_some, Option.map_none, List.cons_append, afill, rep, flat1, flat2, Int.reduceEq, Int.reduceLT, Int.reduceLE, Int.reduceNeg, Int.reduceAdd, Int.reduceSub, Int.reduceMul, Int.reduceToNat, AV.sl.injEq, and_assoc, exists_eq_left, exists_eq_left', AH.take1, List.reduceReplicate, List.flatten_cons, List.flatten_nil, List.set_cons_zero, List.set_cons_succ, aeqv, aeq, Bool.false_bne, bne_self_eq_false, Bool.true_bne, Int.cast_ofNat_Int, Int.reduceGT, Int.reduceGE, ↓exe_lenl, lenS_nils, lenS_esl, lenS_sl]
      simp only [Tryd.fn9_r3, h0, h1, Int.toNat_natCast, and_self, cm, l3, st, AmR, Cd_beq, Cd_bne, Cd_nbeq, Rf_beq, Rf_bne, Rf_nbeq, Df_beq, Df_bne, Df_nbeq, kp, pushA, exe, number, Arg.val, Env.at, lk, putd, AV.cells?, ok1, okM, abin, Option.getD_some, if_true, if_false, List.getElem?_cons_zero, List.getElem?_cons_succ, Bool.not_true, Bool.not_false, reduceIte, reduceCtorEq, Nat.reduceEqDiff, Nat.reduceAdd, Nat.reduceMul, Nat.reduceLT, Nat.reduceSub, decide_true, decide_false, Bool.false_eq_true, Bool.true_eq_false, resAll, resOf, Option.some.injEq, List.cons.injEq, AV.bool.injEq, AV.int.injEq, AV.str.injEq, and_true, true_and, List.nil_append, List.append_nil, visH, List.filter_cons, List.filter_nil, List.flatMap_nil, List.flatMap_cons, List.contains_cons, List.contains_nil, Nat.reduceBEq, Bool.or_false, Bool.or_true, Bool.false_or, Bool.true_or, Nat.reduceLeDiff, aun, List.map_cons, List.map_nil, putAt, solid, List.all_cons, List.all_nil, Bool.and_true, Bool.and_self, List.length_cons, List.length_nil, List.drop_zero, List.take_succ_cons, List.take_zero, List.drop_succ_cons, Option.map_some, Option.map_none, List.cons_append, afill, rep, flat1, flat2, Int.reduceEq, Int.reduceLT, Int.reduceLE, Int.reduceNeg, Int.reduceAdd, Int.reduceSub, Int.reduceMul, Int.reduceToNat, AV.sl.injEq, and_assoc, exists_eq_left, exists_eq_left', AH.take1, List.reduceReplicate, List.flatten_cons, List.flatten_nil, List.set_cons_zero, List.set_cons_succ, aeqv, aeq, Bool.false_bne, bne_self_eq_false, Bool.true_bne, Int.cast_ofNat_Int, Int.reduceGT, Int.reduceGE, ↓exe_lenl, lenS_nils, lenS_esl, lenS_sl]
      simp only [Tryd.fn9_r4, cn, hfm, AmR, Cd_beq, Cd_bne, Cd_nbeq, Rf_beq, Rf_bne, Rf_nbeq, Df_beq, Df_bne, Df_nbeq, kp, pushA, exe, number, Arg.val, Env.at, lk, putd, AV.cells?, ok1, okM, abin, Option.getD_some, if_true, if_false, List.getElem?_cons_zero, List.getElem?_cons_succ, Bool.not_true, Bool.not_false, reduceIte, reduceCtorEq, Nat.reduceEqDiff, Nat.reduceAdd, Nat.reduceMul, Nat.reduceLT, Nat.reduceSub, decide_true, decide_false, Bool.false_eq_true, Bool.true_eq_false, resAll, resOf, Option.some.injEq, List.cons.injEq, AV.bool.injEq, AV.int.injEq, AV.str.injEq, and_true, true_and, List.nil_append, List.append_nil, visH, List.filter_cons, List.filter_nil, List.flatMap_nil, List.flatMap_cons, List.contains_cons, List.contains_nil, Nat.reduceBEq, Bool.or_false, Bool.or_true, Bool.false_or, Bool.true_or, Nat.reduceLeDiff, aun, List.map_cons, List.map_nil, putAt, solid, List.all_cons, List.all_nil, Bool.and_true, Bool.and_self, List.length_cons, List.length_nil, List.drop_zero, List.take_succ_cons, List.take_zero, List.drop_succ_cons, Option.map_some, Option.map_none, List.cons_append, afill, rep, flat1, flat2, Int.reduceEq, Int.reduceLT, Int.reduceLE, Int.reduceNeg, Int.reduceAdd, Int.reduceSub, Int.reduceMul, Int.reduceToNat, AV.sl.injEq, and_assoc, exists_eq_left, exists_eq_left', AH.take1, List.reduceReplicate, List.flatten_cons, List.flatten_nil, List.set_cons_zero, List.set_cons_succ, aeqv, aeq, Bool.false_bne, bne_self_eq_false, Bool.true_bne, Int.cast_ofNat_Int, Int.reduceGT, Int.reduceGE, ↓exe_lenl, lenS_nils, lenS_esl, lenS_sl]
      simp only [Tryd.fn9_r5, AmR, Cd_beq, Cd_bne, Cd_nbeq, Rf_beq, Rf_bne, Rf_nbeq, Df_beq, Df_bne, Df_nbeq, kp, pushA, exe, number, Arg.val, Env.at, lk, putd, AV.cells?, ok1, okM, abin, Option.getD_some, if_true, if_false, List.getElem?_cons_zero, List.getElem?_cons_succ, Bool.not_true, Bool.not_false, reduceIte, reduceCtorEq, Nat.reduceEqDiff, Nat.reduceAdd, Nat.reduceMul, Nat.reduceLT, Nat.reduceSub, decide_true, decide_false, Bool.false_eq_true, Bool.true_eq_false, resAll, resOf, Option.some.injEq, List.cons.injEq, AV.bool.injEq, AV.int.injEq, AV.str.injEq, and_true, true_and, List.nil_append, List.append_nil, visH, List.filter_cons, List.filter_nil, List.flatMap_nil, List.flatMap_cons, List.contains_cons, List.contains_nil, Nat.reduceBEq, Bool.or_false, Bool.or_true, Bool.false_or, Bool.true_or, Nat.reduceLeDiff, aun, List.map_cons, List.map_nil, putAt, solid, List.all_cons, List.all_nil, Bool.and_true, Bool.and_self, List.length_cons, List.length_nil, List.drop_zero, List.take_succ_cons, List.take_zero, List.drop_succ_cons, Option.map_some, Option.map_none, List.cons_append, afill, rep, flat1, flat2, Int.reduceEq, Int.reduceLT, Int.reduceLE, Int.reduceNeg, Int.reduceAdd, Int.reduceSub, Int.reduceMul, Int.reduceToNat, AV.sl.injEq, and_assoc, exists_eq_left, exists_eq_left', AH.take1, List.reduceReplicate, List.flatten_cons, List.flatten_nil, List.set_cons_zero, List.set_cons_succ, aeqv, aeq, Bool.false_bne, bne_self_eq_false, Bool.true_bne, Int.cast_ofNat_Int, Int.reduceGT, Int.reduceGE, ↓exe_lenl, lenS_nils, lenS_esl, lenS_sl]
      rw [hd] at hk hr
      unfold errL at hk hr
      refine ⟨fun hz => ?_, fun hz => ?_⟩
      · rw [if_pos hz] at hk hr
        simp only [Tryd.fn9_r7, hw, AmR, Cd_beq, Cd_bne, Cd_nbeq, Rf_beq, Rf_bne, Rf_nbeq, Df_beq, Df_bne, Df_nbeq, kp, pushA, exe, number, Arg.val, Env.at, lk, putd, AV.cells?, ok1, okM, abin, Option.getD_some, if_true, if_false, List.getElem?_cons_zero, List.getElem?_cons_succ, Bool.not_true, Bool.not_false, reduceIte, reduceCtorEq, Nat.reduceEqDiff, Nat.reduceAdd, Nat.reduceMul, Nat.reduceLT, Nat.reduceSub, decide_true, decide_false, Bool.false_eq_true, Bool.true_eq_false, resAll, resOf, Option.some.injEq, List.cons.injEq, AV.bool.injEq, AV.int.injEq, AV.str.injEq, and_true, true_and, List.nil_append, List.append_nil, visH, List.filter_cons, List.filter_nil, List.flatMap_nil, List.flatMap_cons, List.contains_cons, List.contains_nil, Nat.reduceBEq, Bool.or_false, Bool.or_true, Bool.false_or, Bool.true_or, Nat.reduceLeDiff, aun, List.map_cons, List.map_nil, putAt, solid, List.all_cons, List.all_nil, Bool.and_true, Bool.and_self, List.length_cons, List.length_nil, List.drop_zero, List.take_succ_cons, List.take_zero, List.drop_succ_cons, Option.map_some, Option.map_none, List.cons_append, afill, rep, flat1, flat2, Int.reduceEq, Int.reduceLT, Int.reduceLE, Int.reduceNeg, Int.reduceAdd, Int.reduceSub, Int.reduceMul, Int.reduceToNat, AV.sl.injEq, and_assoc, exists_eq_left, exists_eq_left', AH.take1, List.reduceReplicate, List.flatten_cons, List.flatten_nil, List.set_cons_zero, List.set_cons_succ, aeqv, aeq, Bool.false_bne, bne_self_eq_false, Bool.true_bne, Int.cast_ofNat_Int, Int.reduceGT, Int.reduceGE, ↓exe_lenl, lenS_nils, lenS_esl, lenS_sl]
        exact ih (i + 1) _ (by omega) hg1 (hN.push _ _ _) hk hr
      · rw [if_neg hz] at hk hr
        simp only [Tryd.fn9_r6, AmR, Cd_beq, Cd_bne, Cd_nbeq, Rf_beq, Rf_bne, Rf_nbeq, Df_beq, Df_bne, Df_nbeq, kp, pushA, exe, number, Arg.val, Env.at, lk, putd, AV.cells?, ok1, okM, abin, Option.getD_some, if_true, if_false, List.getElem?_cons_zero, List.getElem?_cons_succ, Bool.not_true, Bool.not_false, reduceIte, reduceCtorEq, Nat.reduceEqDiff, Nat.reduceAdd, Nat.reduceMul, Nat.reduceLT, Nat.reduceSub, decide_true, decide_false, Bool.false_eq_true, Bool.true_eq_false, resAll, resOf, Option.some.injEq, List.cons.injEq, AV.bool.injEq, AV.int.injEq, AV.str.injEq, and_true, true_and, List.nil_append, List.append_nil, visH, List.filter_cons, List.filter_nil, List.flatMap_nil, List.flatMap_cons, List.contains_cons, List.contains_nil, Nat.reduceBEq, Bool.or_false, Bool.or_true, Bool.false_or, Bool.true_or, Nat.reduceLeDiff, aun, List.map_cons, List.map_nil, putAt, solid, List.all_cons, List.all_nil, Bool.and_true, Bool.and_self, List.length_cons, List.length_nil, List.drop_zero, List.take_succ_cons, List.take_zero, List.drop_succ_cons, Option.map_some, Option.map_none, List.cons_append, afill, rep, flat1, flat2, Int.reduceEq, Int.reduceLT, Int.reduceLE, Int.reduceNeg, Int.reduceAdd, Int.reduceSub, Int.reduceMul, Int.reduceToNat, AV.sl.injEq, and_assoc, exists_eq_left, exists_eq_left', AH.take1, List.reduceReplicate, List.flatten_cons, List.flatten_nil, List.set_cons_zero, List.set_cons_succ, aeqv, aeq, Bool.false_bne, bne_self_eq_false, Bool.true_bne, Int.cast_ofNat_Int, Int.reduceGT, Int.reduceGE, ↓exe_lenl, lenS_nils, lenS_esl, lenS_sl]
        exact hr hz _ _ rfl rfl

theorem add_ex (a b : List UInt8) (h : a.length + b.length ≤ 281474976710656) : ∃ r, r = a ++ b ∧ abin .add (.str a) (.str b) = some (.str r) := ⟨_, rfl, by simp only [abin, h, if_true]⟩

theorem Tryd.printLoop2 (l : List Sec) (hl : l.length ≤ 1000000) (ht : ∀ x ∈ l, x.t.length ≤ 1000000 ∧ formL x = 0) (K : AX → St → Prop) (ks : List Fr) (L : ACode) (hL : L = .loop (some [7, 24, 25, 26]) Tryd.fn9_l0) (H0 : AH) (hf0 : H0.floor ≤ H0.next) (p : Nat) (v : AV) (hv : SecS H0 v l) (nv : ∀ i o z n c, v = .sl i o z n c → i < H0.next) :
    ∀ (m i : Nat) (H : AH), m + i = l.length → Grow H0 H → SB H0.next H p (printL (l.take i)) → (printL (l.take i)).length ≤ i * 1000060 → (∀ H' w, SB H0.next H' p (printL l) → (printL l).length ≤ l.length * 1000060 → Nx Tryd.call K ks [(27, .bool false), (7, .ptr p 0), (24, v), (25, .int .i64 l.length), (26, .int .i64 l.length), (27, w)] H') →
    W Tryd.call K (.block 2 :: ks) [(7, .ptr p 0), (24, v), (25, .int .i64 l.length), (26, .int .i64 i)] H L := by
  intro m
  induction m with
  | zero =>
    intro i H hi hg hs hln hk
    refine W_loopN hL ?_
    have hi' : i = l.length := by omega
    subst hi'
    rw [List.take_length] at hs hln
    simp only [Tryd.fn9_l0, Tryd.fn9_r10, AmR, Cd_beq, Cd_bne, Cd_nbeq, Rf_beq, Rf_bne, Rf_nbeq, Df_beq, Df_bne, Df_nbeq, kp, pushA, exe, number, Arg.val, Env.at, lk, putd, AV.cells?, ok1, okM, abin, Option.getD_some, if_true, if_false, List.getElem?_cons_zero, List.getElem?_cons_succ, Bool.not_true, Bool.not_false, reduceIte, reduceCtorEq, Nat.reduceEqDiff, Nat.reduceAdd, Nat.reduceMul, Nat.reduceLT, Nat.reduceSub, decide_true, decide_false, Bool.false_eq_true, Bool.true_eq_false, resAll, resOf, Option.some.injEq, List.cons.injEq, AV.bool.injEq, AV.int.injEq, AV.str.injEq, and_true, true_and, List.nil_append, List.append_nil, visH, List.filter_cons, List.filter_nil, List.flatMap_nil, List.flatMap_cons, List.contains_cons, List.contains_nil, Nat.reduceBEq, Bool.or_false, Bool.or_true, Bool.false_or, Bool.true_or, Nat.reduceLeDiff, aun, List.map_cons, List.map_nil, putAt, solid, List.all_cons, List.all_nil, Bool.and_true, Bool.and_self, List.length_cons, List.length_nil, List.drop_zero, List.take_succ_cons, List.take_zero, List.drop_succ_cons, Option.map_some, Option.map_none, List.cons_append, afill, rep, flat1, flat2, Int.reduceEq, Int.reduceLT, Int.reduceLE, Int.reduceNeg, Int.reduceAdd, Int.reduceSub, Int.reduceMul, Int.reduceToNat, AV.sl.injEq, and_assoc, exists_eq_left, exists_eq_left', AH.take1, List.reduceReplicate, List.flatten_cons, List.flatten_nil, List.set_cons_zero, List.set_cons_succ, aeqv, aeq, Bool.false_bne, bne_self_eq_false, Bool.true_bne, Int.cast_ofNat_Int, Int.reduceGT, Int.reduceGE, ↓exe_lenl, lenS_nils, lenS_esl, lenS_sl]
    exact ⟨fun h => absurd h (by omega), fun _ => hk _ _ hs hln⟩
  | succ m ih =>
    intro i H hi hg hs hln hk
    refine W_loopN hL ?_
    obtain ⟨x, hx⟩ : ∃ x, l[i]? = some x := ⟨_, List.getElem?_eq_getElem (by omega)⟩
    obtain ⟨htx, hfx⟩ := ht x (List.mem_of_getElem? hx)
    have h0 : (0 : Int) ≤ (i : Int) := by omega
    have h1 : ((i : Int) < (l.length : Int)) = True := eq_true (by omega)
    have hw : IntKind.i64.wrap ((i : Int) + 1) = ((i + 1 : Nat) : Int) := by rw [IntWalk.i64_in _ (by omega)]; omega
    have hfl : H.floor ≤ H.next := by have := hg.1; have := hg.2.1; omega
    have hv1 := SliceV.grow hv hg nv
    have hg1 : Grow H0 (H.push 38 true x.cells) := hg.trans (Grow.push _ _ _ _)
    have st := store_push H 38 true [.str [], .str [], .str []] x.cells hfl rfl rfl
    have gn := get_push_new H 38 true x.cells
    have hstep : printL (l.take (i + 1)) = printL (l.take i) ++ secText x := by
      rw [List.take_add_one, hx]
      simp [printL]
    have hlen1 := secText_len hfx htx
    obtain ⟨hkd, hnm⟩ := formL_ok hfx
    have hkl := kindB_len hkd
    have hnl := nameB_len hnm
    have hil := itoa_count htx
    have hcl := count_le x.t
    have hcn := Tryd.count x.t 10
    have hit := fun H => Tryd.itoa (Lib.countByte x.t 10) H (by omega) (by omega)
    obtain ⟨hN, a1, a2, a3, a4⟩ := hs
    have hs1 : SB H0.next (H.push 38 true x.cells) p (printL (l.take i)) := by
      refine ⟨hN.push _ _ _, a1, a2, by show p < H.next + 1; omega, ?_⟩
      rcases a4 with ⟨b1, b2⟩ | ⟨q, b1, b2, b3, b4, b5, b6, b7⟩
      · exact .inl ⟨b1, by rw [get_push_old _ _ _ _ a3]; exact b2⟩
      · exact .inr ⟨q, b1, b2, b3, by show q < H.next + 1; omega, b5, by rw [get_push_old _ _ _ _ a3]; exact b6, by rw [get_push_old _ _ _ _ b4]; exact b7⟩
    have hne : secText x ≠ [] := by simp [secText]
    have hlb : i * 1000060 ≤ 1000000 * 1000060 := Nat.mul_le_mul_right _ (by omega)
    obtain ⟨H2, c1, c2, c3, c4, c5⟩ := hs1.write (Nat.le_trans hg1.2.1 (Nat.le_refl _)) (secText x) hne (by omega)
    have hg2 : Grow H0 H2 := ⟨c3.trans hg1.1, Nat.le_trans hg1.2.1 c4, fun j hj => (c5 j hj).trans (hg1.2.2 j hj)⟩
    have hnew := (hN.push 38 true x.cells).new
    have next : W Tryd.call K (.block 2 :: ks) [(7, .ptr p 0), (24, v), (25, .int .i64 l.length), (26, .int .i64 ((i + 1 : Nat) : Int))] H2 L :=
      ih (i + 1) H2 (by omega) hg2 (by rw [hstep]; exact c2) (by rw [hstep, List.length_append, Nat.add_mul]; omega) hk
    rcases hv1.cases with ⟨rfl, h, _⟩ | ⟨rfl, h, _⟩ | ⟨q, o, c, b, rfl, hb, hlb, hcb⟩
    · omega
    · omega
    · have cm : H.cellsAt q (o + i * 3) 3 = some x.cells := cellsAt_rowO Sec.cells_len hb hlb hcb hx
      have l3 := Sec.cells_len x
      simp only [Tryd.fn9_l0, Tryd.fn9_r10, h1, AmR, Cd_beq, Cd_bne, Cd_nbeq, Rf_beq, Rf_bne, Rf_nbeq, Df_beq, Df_bne, Df_nbeq, kp, pushA, exe, number, Arg.val, Env.at, lk, putd, AV.cells?, ok1, okM, abin, Option.getD_some, if_true, if_false, List.getElem?_cons_zero, List.getElem?_cons_succ, Bool.not_true, Bool.not_false, reduceIte, reduceCtorEq, Nat.reduceEqDiff, Nat.reduceAdd, Nat.reduceMul, Nat.reduceLT, Nat.reduceSub, decide_true, decide_false, Bool.false_eq_true, Bool.true_eq_false, resAll, resOf, Option.some.injEq, List.cons.injEq, AV.bool.injEq, AV.int.injEq, AV.str.injEq, and_true, true_and, List.nil_append, List.append_nil, visH, List.filter_cons, List.filter_nil, List.flatMap_nil, List.flatMap_cons, List.contains_cons, List.contains_nil, Nat.reduceBEq, Bool.or_false, Bool.or_true, Bool.false_or, Bool.true_or, Nat.reduceLeDiff, aun, List.map_cons, List.map_nil, putAt, solid, List.all_cons, List.all_nil, Bool.and_true, Bool.and_self, List.length_cons, List.length_nil, List.drop_zero, List.take_succ_cons, List.take_zero, List.drop_succ_cons, Option.map_some, Option.map_none, List.cons_append, afill, rep, flat1, flat2, Int.reduceEq, Int.reduceLT, Int.reduceLE, Int.reduceNeg, Int.reduceAdd, Int.reduceSub, Int.reduceMul, Int.reduceToNat, AV.sl.injEq, and_assoc, exists_eq_left, exists_eq_left', AH.take1, List.reduceReplicate, List.flatten_cons, List.flatten_nil, List.set_cons_zero, List.set_cons_succ, aeqv, aeq, Bool.false_bne, bne_self_eq_false, Bool.true_bne, Int.cast_ofNat_Int, Int.reduceGT, Int.reduceGE, ↓exe_lenl, lenS_nils, lenS_esl, lenS_sl]
      simp only [Tryd.fn9_r11, h0, h1, Int.toNat_natCast, and_self, cm, l3, st, AmR, Cd_beq, Cd_bne, Cd_nbeq, Rf_beq, Rf_bne, Rf_nbeq, Df_beq, Df_bne, Df_nbeq, kp, pushA, exe, number, Arg.val, Env.at, lk, putd, AV.cells?, ok1, okM, abin, Option.getD_some, if_true, if_false, List.getElem?_cons_zero, List.getElem?_cons_succ, Bool.not_true, Bool.not_false, reduceIte, reduceCtorEq, Nat.reduceEqDiff, Nat.reduceAdd, Nat.reduceMul, Nat.reduceLT, Nat.reduceSub, decide_true, decide_false, Bool.false_eq_true, Bool.true_eq_false, resAll, resOf, Option.some.injEq, List.cons.injEq, AV.bool.injEq, AV.int.injEq, AV.str.injEq, and_true, true_and, List.nil_append, List.append_nil, visH, List.filter_cons, List.filter_nil, List.flatMap_nil, List.flatMap_cons, List.contains_cons, List.contains_nil, Nat.reduceBEq, Bool.or_false, Bool.or_true, Bool.false_or, Bool.true_or, Nat.reduceLeDiff, aun, List.map_cons, List.map_nil, putAt, solid, List.all_cons, List.all_nil, Bool.and_true, Bool.and_self, List.length_cons, List.length_nil, List.drop_zero, List.take_succ_cons, List.take_zero, List.drop_succ_cons, Option.map_some, Option.map_none, List.cons_append, afill, rep, flat1, flat2, Int.reduceEq, Int.reduceLT, Int.reduceLE, Int.reduceNeg, Int.reduceAdd, Int.reduceSub, Int.reduceMul, Int.reduceToNat, AV.sl.injEq, and_assoc, exists_eq_left, exists_eq_left', AH.take1, List.reduceReplicate, List.flatten_cons, List.flatten_nil, List.set_cons_zero, List.set_cons_succ, aeqv, aeq, Bool.false_bne, bne_self_eq_false, Bool.true_bne, Int.cast_ofNat_Int, Int.reduceGT, Int.reduceGE, ↓exe_lenl, lenS_nils, lenS_esl, lenS_sl]
      generalize H.push 38 true x.cells = G at *
      have gb : ∀ nx fl, (AH.mk G.blks nx fl).get H.next = some ⟨x.cells, false, 38, true, true⟩ := fun _ _ => gn
      have k0 : x.cells[0]? = some (.str x.k) := rfl
      have k1 : x.cells[1]? = some (.str x.n) := rfl
      have k2 : x.cells[2]? = some (.str x.t) := rfl
      obtain ⟨s1, q1, e1⟩ := add_ex [61, 61, 32] x.k (by simp only [List.length_cons, List.length_nil]; omega)
      have l1 : s1.length ≤ 10 := by rw [q1]; simp only [List.length_append, List.length_cons, List.length_nil]; omega
      obtain ⟨s2, q2, e2⟩ := add_ex s1 [32] (by simp only [List.length_cons, List.length_nil]; omega)
      have l2 : s2.length ≤ 11 := by rw [q2]; simp only [List.length_append, List.length_cons, List.length_nil]; omega
      obtain ⟨s3, q3, e3⟩ := add_ex s2 x.n (by omega)
      have l3' : s3.length ≤ 27 := by rw [q3]; simp only [List.length_append]; omega
      obtain ⟨s4, q4, e4⟩ := add_ex s3 [32] (by simp only [List.length_cons, List.length_nil]; omega)
      have l4 : s4.length ≤ 28 := by rw [q4]; simp only [List.length_append, List.length_cons, List.length_nil]; omega
      obtain ⟨s5, q5, e5⟩ := add_ex s4 (Lib.itoa (Lib.countByte x.t 10)) (by omega)
      have l5 : s5.length ≤ 49 := by rw [q5]; simp only [List.length_append]; omega
      obtain ⟨s6, q6, e6⟩ := add_ex s5 [10] (by simp only [List.length_cons, List.length_nil]; omega)
      have l6 : s6.length ≤ 50 := by rw [q6]; simp only [List.length_append, List.length_cons, List.length_nil]; omega
      obtain ⟨s7, q7, e7⟩ := add_ex s6 x.t (by omega)
      have hsx : secText x = s7 := by rw [q7, q6, q5, q4, q3, q2, q1]; rfl
      rw [hsx] at c1
      refine W_drawn' (by kernel_rfl) ?_
      simp only [Tryd.fn9_r12, Tryd.fn9_r12a, Tryd.fn9_r12b, gn, gb, k0, k1, k2, hcn, hit, hnew, e1, e2, e3, e4, e5, e6, e7, c1, Nat.zero_add, AmR, Cd_beq, Cd_bne, Cd_nbeq, Rf_beq, Rf_bne, Rf_nbeq, Df_beq, Df_bne, Df_nbeq, kp, pushA, exe, number, Arg.val, Env.at, lk, putd, AV.cells?, ok1, okM, Option.getD_some, if_true, if_false, List.getElem?_cons_zero, List.getElem?_cons_succ, Bool.not_true, Bool.not_false, reduceIte, reduceCtorEq, Nat.reduceEqDiff, Nat.reduceAdd, Nat.reduceMul, Nat.reduceLT, Nat.reduceSub, decide_true, decide_false, Bool.false_eq_true, Bool.true_eq_false, resAll, resOf, Option.some.injEq, List.cons.injEq, AV.bool.injEq, AV.int.injEq, AV.str.injEq, and_true, true_and, List.nil_append, List.append_nil, visH, List.filter_cons, List.filter_nil, List.flatMap_nil, List.flatMap_cons, List.contains_cons, List.contains_nil, Nat.reduceBEq, Bool.or_false, Bool.or_true, Bool.false_or, Bool.true_or, Nat.reduceLeDiff, aun, List.map_cons, List.map_nil, putAt, solid, List.all_cons, List.all_nil, Bool.and_true, Bool.and_self, List.length_cons, List.length_nil, List.drop_zero, List.take_succ_cons, List.take_zero, List.drop_succ_cons, Option.map_some, Option.map_none, List.cons_append, afill, rep, flat1, flat2, Int.reduceEq, Int.reduceLT, Int.reduceLE, Int.reduceNeg, Int.reduceAdd, Int.reduceSub, Int.reduceMul, Int.reduceToNat, AV.sl.injEq, and_assoc, exists_eq_left, exists_eq_left', AH.take1, List.reduceReplicate, List.flatten_cons, List.flatten_nil, List.set_cons_zero, List.set_cons_succ, aeqv, aeq, Bool.false_bne, bne_self_eq_false, Bool.true_bne, Int.cast_ofNat_Int, Int.reduceGT, Int.reduceGE, ↓exe_lenl, lenS_nils, lenS_esl, lenS_sl]
      simp only [Tryd.fn9_r13, hw, AmR, Cd_beq, Cd_bne, Cd_nbeq, Rf_beq, Rf_bne, Rf_nbeq, Df_beq, Df_bne, Df_nbeq, kp, pushA, exe, number, Arg.val, Env.at, lk, putd, AV.cells?, ok1, okM, abin, Option.getD_some, if_true, if_false, List.getElem?_cons_zero, List.getElem?_cons_succ, Bool.not_true, Bool.not_false, reduceIte, reduceCtorEq, Nat.reduceEqDiff, Nat.reduceAdd, Nat.reduceMul, Nat.reduceLT, Nat.reduceSub, decide_true, decide_false, Bool.false_eq_true, Bool.true_eq_false, resAll, resOf, Option.some.injEq, List.cons.injEq, AV.bool.injEq, AV.int.injEq, AV.str.injEq, and_true, true_and, List.nil_append, List.append_nil, visH, List.filter_cons, List.filter_nil, List.flatMap_nil, List.flatMap_cons, List.contains_cons, List.contains_nil, Nat.reduceBEq, Bool.or_false, Bool.or_true, Bool.false_or, Bool.true_or, Nat.reduceLeDiff, aun, List.map_cons, List.map_nil, putAt, solid, List.all_cons, List.all_nil, Bool.and_true, Bool.and_self, List.length_cons, List.length_nil, List.drop_zero, List.take_succ_cons, List.take_zero, List.drop_succ_cons, Option.map_some, Option.map_none, List.cons_append, afill, rep, flat1, flat2, Int.reduceEq, Int.reduceLT, Int.reduceLE, Int.reduceNeg, Int.reduceAdd, Int.reduceSub, Int.reduceMul, Int.reduceToNat, AV.sl.injEq, and_assoc, exists_eq_left, exists_eq_left', AH.take1, List.reduceReplicate, List.flatten_cons, List.flatten_nil, List.set_cons_zero, List.set_cons_succ, aeqv, aeq, Bool.false_bne, bne_self_eq_false, Bool.true_bne, Int.cast_ofNat_Int, Int.reduceGT, Int.reduceGE, ↓exe_lenl, lenS_nils, lenS_esl, lenS_sl]
      exact next

theorem errL_zero : ∀ {l : List Sec}, errL l = 0 → ∀ x ∈ l, formL x = 0
  | [], _, _, hx => by cases hx
  | x :: l, h, y, hy => by
    unfold errL at h
    split at h
    · rename_i hx
      rcases List.mem_cons.1 hy with rfl | hy
      · exact hx
      · exact errL_zero h y hy
    · rename_i hx; exact absurd h hx

theorem Tryd.print (l : List Sec) (v : AV) (H : AH) (hl : l.length ≤ 1000000) (ht : ∀ x ∈ l, x.t.length ≤ 1000000) (hv : SecS H v l) : Tryd.call 9 [.agg [v]] H = some (.ok (.tup [.str (if errL l = 0 then printL l else []), .int .i64 (errL l)]), H) := by
  obtain ⟨w, bs, kq, hkq, hbs, hvw, nw, hsl⟩ := hv.view (secs_flat l) 6
  have hvw1 := views_agg1 hv.notAgg (hvw (l := []) (us := []) (bs2 := []) (k2 := kq) (views_nil H kq))
  refine ecall_flat 6 [] _ _ (out := [.str (if errL l = 0 then printL l else []), .int .i64 (errL l)]) rfl rfl rfl hvw1 rfl ?_
  show W Tryd.call _ _ _ _ _
  have s1 := hsl ⟨bs, kq, kq⟩ fun i _ _ => rfl
  have hg : Grow ⟨bs, kq, kq⟩ ((⟨bs, kq, kq⟩ : AH).push 24 true [w]) := Grow.push _ _ _ _
  have s2 := SliceV.grow s1 hg fun i o z n c e => (nw i o z n c e).2
  have e1 := s1.lenS
  have gn := get_push_new ⟨bs, kq, kq⟩ 24 true [w]
  have hN : Names ((⟨bs, kq, kq⟩ : AH).push 24 true [w]) := Names.push (fun x hx => (hbs x hx).2) _ _ _
  have nv : ∀ i o z n c, w = .sl i o z n c → i < ((⟨bs, kq, kq⟩ : AH).push 24 true [w]).next := fun i o z n c e => Nat.lt_succ_of_lt (nw i o z n c e).2
  simp only [Tryd.fn9, Tryd.fn9_r0, Tryd.fn9_r1, gn, e1, AmR, Cd_beq, Cd_bne, Cd_nbeq, Rf_beq, Rf_bne, Rf_nbeq, Df_beq, Df_bne, Df_nbeq, kp, pushA, exe, number, Arg.val, Env.at, lk, putd, AV.cells?, ok1, okM, abin, Option.getD_some, if_true, if_false, List.getElem?_cons_zero, List.getElem?_cons_succ, Bool.not_true, Bool.not_false, reduceIte, reduceCtorEq, Nat.reduceEqDiff, Nat.reduceAdd, Nat.reduceMul, Nat.reduceLT, Nat.reduceSub, decide_true, decide_false, Bool.false_eq_true, Bool.true_eq_false, resAll, resOf, Option.some.injEq, List.cons.injEq, AV.bool.injEq, AV.int.injEq, AV.str.injEq, and_true, true_and, List.nil_append, List.append_nil, visH, List.filter_cons, List.filter_nil, List.flatMap_nil, List.flatMap_cons, List.contains_cons, List.contains_nil, Nat.reduceBEq, Bool.or_false, Bool.or_true, Bool.false_or, Bool.true_or, Nat.reduceLeDiff, aun, List.map_cons, List.map_nil, putAt, solid, List.all_cons, List.all_nil, Bool.and_true, Bool.and_self, List.length_cons, List.length_nil, List.drop_zero, List.take_succ_cons, List.take_zero, List.drop_succ_cons, Option.map_some, Option.map_none, List.cons_append, afill, rep, flat1, flat2, Int.reduceEq, Int.reduceLT, Int.reduceLE, Int.reduceNeg, Int.reduceAdd, Int.reduceSub, Int.reduceMul, Int.reduceToNat, AV.sl.injEq, and_assoc, exists_eq_left, exists_eq_left', AH.take1, List.reduceReplicate, List.flatten_cons, List.flatten_nil, List.set_cons_zero, List.set_cons_succ, aeqv, aeq, Bool.false_bne, bne_self_eq_false, Bool.true_bne, Int.cast_ofNat_Int, Int.reduceGT, Int.reduceGE, ↓exe_lenl, lenS_nils, lenS_esl, lenS_sl]
  refine Tryd.printLoop1 l hl ht _ _ _ rfl ((⟨bs, kq, kq⟩ : AH).push 24 true [w]) (Nat.le_succ _) kq w s2 nv l.length 0 _ (by omega) (Grow.refl _) hN ?_ ?_
  · intro hz H' u hg' hN'
    rw [List.drop_zero] at hz
    have hfl : H'.floor ≤ H'.next := by have h1 := hg'.1; have h2 := hg'.2.1; have : (((⟨bs, kq, kq⟩ : AH).push 24 true [w])).floor ≤ ((⟨bs, kq, kq⟩ : AH).push 24 true [w]).next := Nat.le_succ _; omega
    have gk : H'.get kq = some ⟨[w], false, 24, true, true⟩ := (hg'.2.2 kq (Nat.lt_succ_self _)).trans gn
    have hkq' : kq < H'.next := Nat.lt_of_lt_of_le (Nat.lt_succ_self _) hg'.2.1
    have gk2 : (H'.push 43 true [.nilp, .nils]).get kq = some ⟨[w], false, 24, true, true⟩ := (get_push_old _ _ _ _ hkq').trans gk
    have s3 := SliceV.grow s2 hg' nv
    have s4 := SliceV.grow s3 (Grow.push H' 43 true [.nilp, .nils]) fun i o z n c e => Nat.lt_of_lt_of_le (nv i o z n c e) hg'.2.1
    have e3 := s4.lenS
    have sb : SB H'.next (H'.push 43 true [.nilp, .nils]) H'.next (printL (l.take 0)) := ⟨hN'.push _ _ _, hfl, Nat.le_refl _, Nat.lt_succ_self _, .inl ⟨rfl, get_push_new _ _ _ _⟩⟩
    simp only [Tryd.fn9_r8, Tryd.fn9_r9, gk2, e3, AmR, Cd_beq, Cd_bne, Cd_nbeq, Rf_beq, Rf_bne, Rf_nbeq, Df_beq, Df_bne, Df_nbeq, kp, pushA, exe, number, Arg.val, Env.at, lk, putd, AV.cells?, ok1, okM, abin, Option.getD_some, if_true, if_false, List.getElem?_cons_zero, List.getElem?_cons_succ, Bool.not_true, Bool.not_false, reduceIte, reduceCtorEq, Nat.reduceEqDiff, Nat.reduceAdd, Nat.reduceMul, Nat.reduceLT, Nat.reduceSub, decide_true, decide_false, Bool.false_eq_true, Bool.true_eq_false, resAll, resOf, Option.some.injEq, List.cons.injEq, AV.bool.injEq, AV.int.injEq, AV.str.injEq, and_true, true_and, List.nil_append, List.append_nil, visH, List.filter_cons, List.filter_nil, List.flatMap_nil, List.flatMap_cons, List.contains_cons, List.contains_nil, Nat.reduceBEq, Bool.or_false, Bool.or_true, Bool.false_or, Bool.true_or, Nat.reduceLeDiff, aun, List.map_cons, List.map_nil, putAt, solid, List.all_cons, List.all_nil, Bool.and_true, Bool.and_self, List.length_cons, List.length_nil, List.drop_zero, List.take_succ_cons, List.take_zero, List.drop_succ_cons, Option.map_some, Option.map_none, List.cons_append, afill, rep, flat1, flat2, Int.reduceEq, Int.reduceLT, Int.reduceLE, Int.reduceNeg, Int.reduceAdd, Int.reduceSub, Int.reduceMul, Int.reduceToNat, AV.sl.injEq, and_assoc, exists_eq_left, exists_eq_left', AH.take1, List.reduceReplicate, List.flatten_cons, List.flatten_nil, List.set_cons_zero, List.set_cons_succ, aeqv, aeq, Bool.false_bne, bne_self_eq_false, Bool.true_bne, Int.cast_ofNat_Int, Int.reduceGT, Int.reduceGE, ↓exe_lenl, lenS_nils, lenS_esl, lenS_sl]
    refine Tryd.printLoop2 l hl (fun x hx => ⟨ht x hx, errL_zero hz x hx⟩) _ _ _ rfl H' hfl H'.next w s3 (fun i o z n c e => Nat.lt_of_lt_of_le (nv i o z n c e) hg'.2.1) l.length 0 _ (by omega) (Grow.push _ _ _ _) sb (by simp [printL]) ?_
    intro H2 u2 sb2 hln
    have hlb : l.length * 1000060 ≤ 1000000 * 1000060 := Nat.mul_le_mul_right _ hl
    obtain ⟨H3, hc⟩ := sb2.string (by omega)
    simp only [Tryd.fn9_r14, hc, hz, AmR, Cd_beq, Cd_bne, Cd_nbeq, Rf_beq, Rf_bne, Rf_nbeq, Df_beq, Df_bne, Df_nbeq, kp, pushA, exe, number, Arg.val, Env.at, lk, putd, AV.cells?, ok1, okM, abin, Option.getD_some, if_true, if_false, List.getElem?_cons_zero, List.getElem?_cons_succ, Bool.not_true, Bool.not_false, reduceIte, reduceCtorEq, Nat.reduceEqDiff, Nat.reduceAdd, Nat.reduceMul, Nat.reduceLT, Nat.reduceSub, decide_true, decide_false, Bool.false_eq_true, Bool.true_eq_false, resAll, resOf, Option.some.injEq, List.cons.injEq, AV.bool.injEq, AV.int.injEq, AV.str.injEq, and_true, true_and, List.nil_append, List.append_nil, visH, List.filter_cons, List.filter_nil, List.flatMap_nil, List.flatMap_cons, List.contains_cons, List.contains_nil, Nat.reduceBEq, Bool.or_false, Bool.or_true, Bool.false_or, Bool.true_or, Nat.reduceLeDiff, aun, List.map_cons, List.map_nil, putAt, solid, List.all_cons, List.all_nil, Bool.and_true, Bool.and_self, List.length_cons, List.length_nil, List.drop_zero, List.take_succ_cons, List.take_zero, List.drop_succ_cons, Option.map_some, Option.map_none, List.cons_append, afill, rep, flat1, flat2, Int.reduceEq, Int.reduceLT, Int.reduceLE, Int.reduceNeg, Int.reduceAdd, Int.reduceSub, Int.reduceMul, Int.reduceToNat, AV.sl.injEq, and_assoc, exists_eq_left, exists_eq_left', AH.take1, List.reduceReplicate, List.flatten_cons, List.flatten_nil, List.set_cons_zero, List.set_cons_succ, aeqv, aeq, Bool.false_bne, bne_self_eq_false, Bool.true_bne, Int.cast_ofNat_Int, Int.reduceGT, Int.reduceGE, ↓exe_lenl, lenS_nils, lenS_esl, lenS_sl]
  · intro hz e H' h2 h3
    rw [List.drop_zero] at hz h3
    simp only [Rt_code, Rt_block, Rt_nil, flatK_ret, resAll, resOf, h2, h3, hz, if_false]

end Go.Am
