/-
Events at other times. Conditions: those that each theorem names.
-/
import Derived.Test.YtodonjfcaimgiaaDoorAmMd
set_option linter.unusedSimpArgs false
set_option linter.unusedVariables false
namespace Go.Am

def sh (n : Int) (x : Ev) : Ev := { x with f := x.f + n, t := x.t + n }
def okL (l : List Ev) : Bool := l.all Ev.ok
/-- The events later by n ticks, and the error. -/
def shiftL (l : List Ev) (n : Int) : List Ev := if okL l = true then (if 0 < l.length ∧ (n < -1099511627776 ∨ 1099511627776 < n) then [] else if okL (l.map (sh n)) = true then l.map (sh n) else []) else []
def shiftE (l : List Ev) (n : Int) : Int := if okL l = true then (if 0 < l.length ∧ (n < -1099511627776 ∨ 1099511627776 < n) then 2 else if okL (l.map (sh n)) = true then 0 else 2) else 1

theorem rows_set1 {L : List Ev} {i : Nat} {x : Ev} (h : L[i]? = some x) (a : Int) : (rowsOf Ev.cells L).set (0 + i * 7 + 1) (.int .i64 a) = rowsOf Ev.cells (L.set i { x with f := a }) := by
  induction L generalizing i with
  | nil => simp at h
  | cons y L ih =>
    cases i with
    | zero => simp at h; subst h; rfl
    | succ i =>
      have := ih (i := i) (by simpa using h)
      have e : 0 + (i + 1) * 7 + 1 = 7 + (0 + i * 7 + 1) := by omega
      rw [e]
      simp only [rowsOf, List.flatMap_cons, List.set_cons_succ] at this ⊢
      rw [List.set_append_right _ _ (by rw [Ev.cells_len]; omega), Ev.cells_len, Nat.add_sub_cancel_left, this]
theorem rows_set2 {L : List Ev} {i : Nat} {x : Ev} (h : L[i]? = some x) (a : Int) : (rowsOf Ev.cells L).set (0 + i * 7 + 2) (.int .i64 a) = rowsOf Ev.cells (L.set i { x with t := a }) := by
  induction L generalizing i with
  | nil => simp at h
  | cons y L ih =>
    cases i with
    | zero => simp at h; subst h; rfl
    | succ i =>
      have := ih (i := i) (by simpa using h)
      have e : 0 + (i + 1) * 7 + 2 = 7 + (0 + i * 7 + 2) := by omega
      rw [e]
      simp only [rowsOf, List.flatMap_cons, List.set_cons_succ] at this ⊢
      rw [List.set_append_right _ _ (by rw [Ev.cells_len]; omega), Ev.cells_len, Nat.add_sub_cancel_left, this]

theorem okL_drop {l : List Ev} {i : Nat} {x : Ev} (h : l[i]? = some x) : okL (l.drop i) = (x.ok && okL (l.drop (i + 1))) := by
  have hil : i < l.length := by
    by_cases hlt : i < l.length
    · exact hlt
    · rw [List.getElem?_eq_none (by omega)] at h; cases h
  rw [List.getElem?_eq_getElem hil, Option.some.injEq] at h
  unfold okL
  rw [List.drop_eq_getElem_cons hil, List.all_cons, h]

/-- The list of a shift under way. -/
def part (l : List Ev) (n : Int) (i : Nat) : List Ev := (l.take i).map (sh n) ++ l.drop i
theorem part_at {l : List Ev} {n : Int} {i : Nat} {x : Ev} (h : l[i]? = some x) : (part l n i)[i]? = some x := by
  have hil : i < l.length := by
    by_cases hlt : i < l.length
    · exact hlt
    · rw [List.getElem?_eq_none (by omega)] at h; cases h
  unfold part
  rw [List.getElem?_append_right (by simp; omega)]
  simp only [List.length_map, List.length_take]
  have e : i - min i l.length = 0 := by omega
  rw [e, List.getElem?_drop, Nat.add_zero, h]
theorem part_next {l : List Ev} {n : Int} {i : Nat} {x : Ev} (h : l[i]? = some x) : (part l n i).set i (sh n x) = part l n (i + 1) := by
  have hil : i < l.length := by
    by_cases hlt : i < l.length
    · exact hlt
    · rw [List.getElem?_eq_none (by omega)] at h; cases h
  have hd : l.drop i = x :: l.drop (i + 1) := by
    rw [List.drop_eq_getElem_cons hil]
    rw [List.getElem?_eq_getElem hil, Option.some.injEq] at h
    rw [h]
  unfold part
  rw [List.take_add_one, h, hd]
  have e : ((l.take i).map (sh n)).length = i := by simp; omega
  rw [List.set_append_right _ _ (by omega), e, Nat.sub_self]
  simp
theorem part_len (l : List Ev) (n : Int) (i : Nat) : (part l n i).length = l.length := by
  unfold part; simp; omega

theorem Tryd.validLoop (l : List Ev) (c : Option Nat) (n0 : Int) (hl : l.length ≤ 1000000) (K : AX → St → Prop) (ks : List Fr) (L : ACode) (hL : L = .loop (some [0, 1, 10, 11, 12]) Tryd.fn17_l1) (b : Blk) (hc : b.cells = rowsOf Ev.cells l) :
    ∀ (n i : Nat) (H : AH), n + i = l.length → H.get 8 = some b → H.floor = 9 → 9 ≤ H.next →
    (okL (l.drop i) = true → ∀ H e, H.get 8 = some b → H.floor = 9 → 9 ≤ H.next → e.at 0 = .sl 8 0 7 l.length c → e.at 1 = .int .i64 n0 → Nx Tryd.call K ks e H) →
    (okL (l.drop i) = false → ∀ H e, e.at 4 = .nils → e.at 5 = .int .i64 1 → Rt Tryd.call K ks e H) →
    W Tryd.call K (.block 0 :: ks) [(0, .sl 8 0 7 l.length c), (1, .int .i64 n0), (10, .sl 8 0 7 l.length c), (11, .int .i64 l.length), (12, .int .i64 i)] H L := by
  intro n
  induction n with
  | zero =>
    intro i H hi hb hf hn hk hr
    refine W_loopN hL ?_
    have hi' : i = l.length := by omega
    subst hi'
    simp only [Tryd.fn17_l1, Tryd.fn17_r2, AmR, Cd_beq, Cd_bne, Cd_nbeq, Rf_beq, Rf_bne, Rf_nbeq, Df_beq, Df_bne, Df_nbeq, kp, pushA, exe, number, Arg.val, Env.at, lk, putd, AV.cells?, ok1, okM, abin, Option.getD_some, if_true, if_false, List.getElem?_cons_zero, List.getElem?_cons_succ, Bool.not_true, Bool.not_false, reduceIte, reduceCtorEq, Nat.reduceEqDiff, Nat.reduceAdd, Nat.reduceMul, Nat.reduceLT, Nat.reduceSub, decide_true, decide_false, Bool.false_eq_true, Bool.true_eq_false, resAll, resOf, Option.some.injEq, List.cons.injEq, AV.bool.injEq, AV.int.injEq, AV.str.injEq, and_true, true_and, List.nil_append, List.append_nil, visH, List.filter_cons, List.filter_nil, List.flatMap_nil, List.flatMap_cons, List.contains_cons, List.contains_nil, Nat.reduceBEq, Bool.or_false, Bool.or_true, Bool.false_or, Bool.true_or, Nat.reduceLeDiff, aun, List.map_cons, List.map_nil, putAt, solid, List.all_cons, List.all_nil, Bool.and_true, Bool.and_self, List.length_cons, List.length_nil, List.drop_zero, List.take_succ_cons, List.take_zero, List.drop_succ_cons, Option.map_some, Option.map_none, List.cons_append, afill, rep, flat1, flat2, Int.reduceEq, Int.reduceLT, Int.reduceLE, Int.reduceNeg, Int.reduceAdd, Int.reduceSub, Int.reduceMul, Int.reduceToNat, AV.sl.injEq, and_assoc, exists_eq_left, exists_eq_left', AH.take1, List.reduceReplicate, List.flatten_cons, List.flatten_nil, List.set_cons_zero, List.set_cons_succ, aeqv, aeq, Bool.false_bne, bne_self_eq_false, Bool.true_bne, Int.cast_ofNat_Int, Int.reduceGT, Int.reduceGE]
    refine ⟨fun h => absurd h (by omega), fun _ => hk (by simp [okL]) _ _ hb hf hn rfl rfl⟩
  | succ n ih =>
    intro i H hi hb hf hn hk hr
    refine W_loopN hL ?_
    obtain ⟨x, hx⟩ : ∃ x, l[i]? = some x := ⟨_, List.getElem?_eq_getElem (by omega)⟩
    have h0 : (0 : Int) ≤ (i : Int) := by omega
    have h1 : ((i : Int) < (l.length : Int)) = True := eq_true (by omega)
    have hw : IntKind.i64.wrap ((i : Int) + 1) = ((i + 1 : Nat) : Int) := by rw [IntWalk.i64_in _ (by omega)]; omega
    have hfl : H.floor ≤ H.next := by omega
    have cx := cellsAt_row Ev.cells_len hb hc hx
    have l7 := Ev.cells_len x
    have sol : x.cells.all solid = true := rfl
    have st := store_push H 23 true [.int .i64 0, .int .i64 0, .int .i64 0, .int .i64 0, .int .i64 0, .str [], .int .i64 0] x.cells hfl rfl sol
    have g0 : (H.push 23 true x.cells).get 8 = some b := (get_push_old H 23 true x.cells (by omega)).trans hb
    have cn : (H.push 23 true x.cells).cellsAt H.next 0 7 = some x.cells := cellsAt_new _ _ _ _ l7
    have hv := Tryd.valid x
    have hv' : ∀ H, Tryd.call 10 [.agg x.cells] H = some (.ok (.bool x.ok), H) := hv
    have ho := okL_drop hx
    simp only [Tryd.fn17_l1, Tryd.fn17_r2, h1, AmR, Cd_beq, Cd_bne, Cd_nbeq, Rf_beq, Rf_bne, Rf_nbeq, Df_beq, Df_bne, Df_nbeq, kp, pushA, exe, number, Arg.val, Env.at, lk, putd, AV.cells?, ok1, okM, abin, Option.getD_some, if_true, if_false, List.getElem?_cons_zero, List.getElem?_cons_succ, Bool.not_true, Bool.not_false, reduceIte, reduceCtorEq, Nat.reduceEqDiff, Nat.reduceAdd, Nat.reduceMul, Nat.reduceLT, Nat.reduceSub, decide_true, decide_false, Bool.false_eq_true, Bool.true_eq_false, resAll, resOf, Option.some.injEq, List.cons.injEq, AV.bool.injEq, AV.int.injEq, AV.str.injEq, and_true, true_and, List.nil_append, List.append_nil, visH, List.filter_cons, List.filter_nil, List.flatMap_nil, List.flatMap_cons, List.contains_cons, List.contains_nil, Nat.reduceBEq, Bool.or_false, Bool.or_true, Bool.false_or, Bool.true_or, Nat.reduceLeDiff, aun, List.map_cons, List.map_nil, putAt, solid, List.all_cons, List.all_nil, Bool.and_true, Bool.and_self, List.length_cons, List.length_nil, List.drop_zero, List.take_succ_cons, List.take_zero, List.drop_succ_cons, Option.map_some, Option.map_none, List.cons_append, afill, rep, flat1, flat2, Int.reduceEq, Int.reduceLT, Int.reduceLE, Int.reduceNeg, Int.reduceAdd, Int.reduceSub, Int.reduceMul, Int.reduceToNat, AV.sl.injEq, and_assoc, exists_eq_left, exists_eq_left', AH.take1, List.reduceReplicate, List.flatten_cons, List.flatten_nil, List.set_cons_zero, List.set_cons_succ, aeqv, aeq, Bool.false_bne, bne_self_eq_false, Bool.true_bne, Int.cast_ofNat_Int, Int.reduceGT, Int.reduceGE]
    simp only [Tryd.fn17_r3, h0, h1, Int.toNat_natCast, and_self, cx, l7, st, AmR, Cd_beq, Cd_bne, Cd_nbeq, Rf_beq, Rf_bne, Rf_nbeq, Df_beq, Df_bne, Df_nbeq, kp, pushA, exe, number, Arg.val, Env.at, lk, putd, AV.cells?, ok1, okM, abin, Option.getD_some, if_true, if_false, List.getElem?_cons_zero, List.getElem?_cons_succ, Bool.not_true, Bool.not_false, reduceIte, reduceCtorEq, Nat.reduceEqDiff, Nat.reduceAdd, Nat.reduceMul, Nat.reduceLT, Nat.reduceSub, decide_true, decide_false, Bool.false_eq_true, Bool.true_eq_false, resAll, resOf, Option.some.injEq, List.cons.injEq, AV.bool.injEq, AV.int.injEq, AV.str.injEq, and_true, true_and, List.nil_append, List.append_nil, visH, List.filter_cons, List.filter_nil, List.flatMap_nil, List.flatMap_cons, List.contains_cons, List.contains_nil, Nat.reduceBEq, Bool.or_false, Bool.or_true, Bool.false_or, Bool.true_or, Nat.reduceLeDiff, aun, List.map_cons, List.map_nil, putAt, solid, List.all_cons, List.all_nil, Bool.and_true, Bool.and_self, List.length_cons, List.length_nil, List.drop_zero, List.take_succ_cons, List.take_zero, List.drop_succ_cons, Option.map_some, Option.map_none, List.cons_append, afill, rep, flat1, flat2, Int.reduceEq, Int.reduceLT, Int.reduceLE, Int.reduceNeg, Int.reduceAdd, Int.reduceSub, Int.reduceMul, Int.reduceToNat, AV.sl.injEq, and_assoc, exists_eq_left, exists_eq_left', AH.take1, List.reduceReplicate, List.flatten_cons, List.flatten_nil, List.set_cons_zero, List.set_cons_succ, aeqv, aeq, Bool.false_bne, bne_self_eq_false, Bool.true_bne, Int.cast_ofNat_Int, Int.reduceGT, Int.reduceGE]
    simp only [Tryd.fn17_r4, cn, hv', AmR, Cd_beq, Cd_bne, Cd_nbeq, Rf_beq, Rf_bne, Rf_nbeq, Df_beq, Df_bne, Df_nbeq, kp, pushA, exe, number, Arg.val, Env.at, lk, putd, AV.cells?, ok1, okM, abin, Option.getD_some, if_true, if_false, List.getElem?_cons_zero, List.getElem?_cons_succ, Bool.not_true, Bool.not_false, reduceIte, reduceCtorEq, Nat.reduceEqDiff, Nat.reduceAdd, Nat.reduceMul, Nat.reduceLT, Nat.reduceSub, decide_true, decide_false, Bool.false_eq_true, Bool.true_eq_false, resAll, resOf, Option.some.injEq, List.cons.injEq, AV.bool.injEq, AV.int.injEq, AV.str.injEq, and_true, true_and, List.nil_append, List.append_nil, visH, List.filter_cons, List.filter_nil, List.flatMap_nil, List.flatMap_cons, List.contains_cons, List.contains_nil, Nat.reduceBEq, Bool.or_false, Bool.or_true, Bool.false_or, Bool.true_or, Nat.reduceLeDiff, aun, List.map_cons, List.map_nil, putAt, solid, List.all_cons, List.all_nil, Bool.and_true, Bool.and_self, List.length_cons, List.length_nil, List.drop_zero, List.take_succ_cons, List.take_zero, List.drop_succ_cons, Option.map_some, Option.map_none, List.cons_append, afill, rep, flat1, flat2, Int.reduceEq, Int.reduceLT, Int.reduceLE, Int.reduceNeg, Int.reduceAdd, Int.reduceSub, Int.reduceMul, Int.reduceToNat, AV.sl.injEq, and_assoc, exists_eq_left, exists_eq_left', AH.take1, List.reduceReplicate, List.flatten_cons, List.flatten_nil, List.set_cons_zero, List.set_cons_succ, aeqv, aeq, Bool.false_bne, bne_self_eq_false, Bool.true_bne, Int.cast_ofNat_Int, Int.reduceGT, Int.reduceGE]
    cases hok : x.ok with
    | true =>
      rw [hok, Bool.true_and] at ho
      simp only [Tryd.fn17_r6, hw, AmR, Cd_beq, Cd_bne, Cd_nbeq, Rf_beq, Rf_bne, Rf_nbeq, Df_beq, Df_bne, Df_nbeq, kp, pushA, exe, number, Arg.val, Env.at, lk, putd, AV.cells?, ok1, okM, abin, Option.getD_some, if_true, if_false, List.getElem?_cons_zero, List.getElem?_cons_succ, Bool.not_true, Bool.not_false, reduceIte, reduceCtorEq, Nat.reduceEqDiff, Nat.reduceAdd, Nat.reduceMul, Nat.reduceLT, Nat.reduceSub, decide_true, decide_false, Bool.false_eq_true, Bool.true_eq_false, resAll, resOf, Option.some.injEq, List.cons.injEq, AV.bool.injEq, AV.int.injEq, AV.str.injEq, and_true, true_and, List.nil_append, List.append_nil, visH, List.filter_cons, List.filter_nil, List.flatMap_nil, List.flatMap_cons, List.contains_cons, List.contains_nil, Nat.reduceBEq, Bool.or_false, Bool.or_true, Bool.false_or, Bool.true_or, Nat.reduceLeDiff, aun, List.map_cons, List.map_nil, putAt, solid, List.all_cons, List.all_nil, Bool.and_true, Bool.and_self, List.length_cons, List.length_nil, List.drop_zero, List.take_succ_cons, List.take_zero, List.drop_succ_cons, Option.map_some, Option.map_none, List.cons_append, afill, rep, flat1, flat2, Int.reduceEq, Int.reduceLT, Int.reduceLE, Int.reduceNeg, Int.reduceAdd, Int.reduceSub, Int.reduceMul, Int.reduceToNat, AV.sl.injEq, and_assoc, exists_eq_left, exists_eq_left', AH.take1, List.reduceReplicate, List.flatten_cons, List.flatten_nil, List.set_cons_zero, List.set_cons_succ, aeqv, aeq, Bool.false_bne, bne_self_eq_false, Bool.true_bne, Int.cast_ofNat_Int, Int.reduceGT, Int.reduceGE]
      exact ih (i + 1) _ (by omega) g0 hf (by show 9 ≤ H.next + 1; omega) (by rw [← ho]; exact hk) (by rw [← ho]; exact hr)
    | false =>
      rw [hok, Bool.false_and] at ho
      simp only [Tryd.fn17_r5, AmR, Cd_beq, Cd_bne, Cd_nbeq, Rf_beq, Rf_bne, Rf_nbeq, Df_beq, Df_bne, Df_nbeq, kp, pushA, exe, number, Arg.val, Env.at, lk, putd, AV.cells?, ok1, okM, abin, Option.getD_some, if_true, if_false, List.getElem?_cons_zero, List.getElem?_cons_succ, Bool.not_true, Bool.not_false, reduceIte, reduceCtorEq, Nat.reduceEqDiff, Nat.reduceAdd, Nat.reduceMul, Nat.reduceLT, Nat.reduceSub, decide_true, decide_false, Bool.false_eq_true, Bool.true_eq_false, resAll, resOf, Option.some.injEq, List.cons.injEq, AV.bool.injEq, AV.int.injEq, AV.str.injEq, and_true, true_and, List.nil_append, List.append_nil, visH, List.filter_cons, List.filter_nil, List.flatMap_nil, List.flatMap_cons, List.contains_cons, List.contains_nil, Nat.reduceBEq, Bool.or_false, Bool.or_true, Bool.false_or, Bool.true_or, Nat.reduceLeDiff, aun, List.map_cons, List.map_nil, putAt, solid, List.all_cons, List.all_nil, Bool.and_true, Bool.and_self, List.length_cons, List.length_nil, List.drop_zero, List.take_succ_cons, List.take_zero, List.drop_succ_cons, Option.map_some, Option.map_none, List.cons_append, afill, rep, flat1, flat2, Int.reduceEq, Int.reduceLT, Int.reduceLE, Int.reduceNeg, Int.reduceAdd, Int.reduceSub, Int.reduceMul, Int.reduceToNat, AV.sl.injEq, and_assoc, exists_eq_left, exists_eq_left', AH.take1, List.reduceReplicate, List.flatten_cons, List.flatten_nil, List.set_cons_zero, List.set_cons_succ, aeqv, aeq, Bool.false_bne, bne_self_eq_false, Bool.true_bne, Int.cast_ofNat_Int, Int.reduceGT, Int.reduceGE]
      exact hr ho _ _ rfl rfl

theorem Tryd.shiftLoop (l : List Ev) (n0 : Int) (hl : l.length ≤ 1000000) (hn00 : 0 < l.length → -1099511627776 ≤ n0 ∧ n0 ≤ 1099511627776) (hok : okL l = true) (K : AX → St → Prop) (ks : List Fr) (L : ACode) (hL : L = .loop (some [1, 8, 34, 35]) Tryd.fn17_l0) (q : Nat) (c : Option Nat) :
    ∀ (n i : Nat) (H : AH), n + i = l.length → okL ((l.take i).map (sh n0)) = true → Own H 23 7 q l.length c (rowsOf Ev.cells (part l n0 i)) →
    (okL (l.map (sh n0)) = true → ∀ H e, Own H 23 7 q l.length c (rowsOf Ev.cells (l.map (sh n0))) → e.at 8 = .sl q 0 7 l.length c → Nx Tryd.call K ks e H) →
    (okL (l.map (sh n0)) = false → ∀ H e, e.at 4 = .nils → e.at 5 = .int .i64 2 → Rt Tryd.call K ks e H) →
    W Tryd.call K (.block 2 :: ks) [(1, .int .i64 n0), (8, .sl q 0 7 l.length c), (34, .int .i64 l.length), (35, .int .i64 i)] H L := by
  intro n
  induction n with
  | zero =>
    intro i H hi ho hq hk hr
    refine W_loopN hL ?_
    have hi' : i = l.length := by omega
    subst hi'
    simp only [Tryd.fn17_l0, Tryd.fn17_r12, AmR, Cd_beq, Cd_bne, Cd_nbeq, Rf_beq, Rf_bne, Rf_nbeq, Df_beq, Df_bne, Df_nbeq, kp, pushA, exe, number, Arg.val, Env.at, lk, putd, AV.cells?, ok1, okM, abin, Option.getD_some, if_true, if_false, List.getElem?_cons_zero, List.getElem?_cons_succ, Bool.not_true, Bool.not_false, reduceIte, reduceCtorEq, Nat.reduceEqDiff, Nat.reduceAdd, Nat.reduceMul, Nat.reduceLT, Nat.reduceSub, decide_true, decide_false, Bool.false_eq_true, Bool.true_eq_false, resAll, resOf, Option.some.injEq, List.cons.injEq, AV.bool.injEq, AV.int.injEq, AV.str.injEq, and_true, true_and, List.nil_append, List.append_nil, visH, List.filter_cons, List.filter_nil, List.flatMap_nil, List.flatMap_cons, List.contains_cons, List.contains_nil, Nat.reduceBEq, Bool.or_false, Bool.or_true, Bool.false_or, Bool.true_or, Nat.reduceLeDiff, aun, List.map_cons, List.map_nil, putAt, solid, List.all_cons, List.all_nil, Bool.and_true, Bool.and_self, List.length_cons, List.length_nil, List.drop_zero, List.take_succ_cons, List.take_zero, List.drop_succ_cons, Option.map_some, Option.map_none, List.cons_append, afill, rep, flat1, flat2, Int.reduceEq, Int.reduceLT, Int.reduceLE, Int.reduceNeg, Int.reduceAdd, Int.reduceSub, Int.reduceMul, Int.reduceToNat, AV.sl.injEq, and_assoc, exists_eq_left, exists_eq_left', AH.take1, List.reduceReplicate, List.flatten_cons, List.flatten_nil, List.set_cons_zero, List.set_cons_succ, aeqv, aeq, Bool.false_bne, bne_self_eq_false, Bool.true_bne, Int.cast_ofNat_Int, Int.reduceGT, Int.reduceGE]
    rw [List.take_length] at ho
    have hp : part l n0 l.length = l.map (sh n0) := by unfold part; simp
    rw [hp] at hq
    refine ⟨fun h => absurd h (by omega), fun _ => hk ho _ _ hq rfl⟩
  | succ n ih =>
    intro i H hi ho hq hk hr
    refine W_loopN hL ?_
    obtain ⟨x, hx⟩ : ∃ x, l[i]? = some x := ⟨_, List.getElem?_eq_getElem (by omega)⟩
    have h0 : (0 : Int) ≤ (i : Int) := by omega
    have h1 : ((i : Int) < (l.length : Int)) = True := eq_true (by omega)
    have hw : IntKind.i64.wrap ((i : Int) + 1) = ((i + 1 : Nat) : Int) := by rw [IntWalk.i64_in _ (by omega)]; omega
    have hn0 := hn00 (by omega)
    have hxm : x ∈ l := by
      have hil : i < l.length := by omega
      rw [List.getElem?_eq_getElem hil, Option.some.injEq] at hx
      rw [← hx]; exact List.getElem_mem hil
    have hxok : x.ok = true := List.all_eq_true.1 hok x hxm
    have hxk := x.ok_iff.1 hxok
    have w1 : IntKind.i64.wrap (x.f + n0) = x.f + n0 := IntWalk.i64_in _ (by omega)
    have w2 : IntKind.i64.wrap (x.t + n0) = x.t + n0 := IntWalk.i64_in _ (by omega)
    have pa := part_at (n := n0) hx
    have hlen : (rowsOf Ev.cells (part l n0 i)).length = l.length * 7 := by rw [rowsOf_length Ev.cells_len, part_len]
    have c1 : (rowsOf Ev.cells (part l n0 i))[0 + i * 7 + 1]? = some (.int .i64 x.f) := by rw [rowsOf_cell Ev.cells_len pa (by omega)]; rfl
    obtain ⟨H1, s1, o1, f1, n1, k1⟩ := hq.store (o := 0 + i * 7 + 1) (v := .int .i64 (x.f + n0)) (by rw [hlen]; omega) rfl
    rw [rows_set1 pa] at o1
    have pb : ((part l n0 i).set i { x with f := x.f + n0 })[i]? = some { x with f := x.f + n0 } := by
      rw [List.getElem?_set_self (by rw [part_len]; omega)]
    have c2 : (rowsOf Ev.cells ((part l n0 i).set i { x with f := x.f + n0 }))[0 + i * 7 + 2]? = some (.int .i64 x.t) := by rw [rowsOf_cell Ev.cells_len pb (by omega)]; rfl
    have hlen1 : (rowsOf Ev.cells ((part l n0 i).set i { x with f := x.f + n0 })).length = l.length * 7 := by rw [rowsOf_length Ev.cells_len, List.length_set, part_len]
    obtain ⟨H2, s2, o2, f2, n2, k2⟩ := o1.store (o := 0 + i * 7 + 2) (v := .int .i64 (x.t + n0)) (by rw [hlen1]; omega) rfl
    rw [rows_set2 pb, List.set_set] at o2
    have hshx : ({ ({ x with f := x.f + n0 } : Ev) with t := x.t + n0 } : Ev) = sh n0 x := rfl
    rw [hshx, part_next hx] at o2
    obtain ⟨_, _, _, _, _, wh, s0, hg⟩ := hq
    obtain ⟨_, _, _, _, _, wh1, s01, hg1⟩ := o1
    have o2' := o2
    obtain ⟨_, _, _, _, _, wh2, s02, hg2⟩ := o2'
    have pc : (part l n0 (i + 1))[i]? = some (sh n0 x) := by
      rw [← part_next hx, List.getElem?_set_self (by rw [part_len]; omega)]
    have cr := cellsAt_row Ev.cells_len hg2 rfl pc
    have hv' : ∀ H, Tryd.call 10 [.agg (sh n0 x).cells] H = some (.ok (.bool (sh n0 x).ok), H) := Tryd.valid (sh n0 x)
    simp only [Tryd.fn17_l0, Tryd.fn17_r12, Tryd.fn17_r13, h1, AmR, Cd_beq, Cd_bne, Cd_nbeq, Rf_beq, Rf_bne, Rf_nbeq, Df_beq, Df_bne, Df_nbeq, kp, pushA, exe, number, Arg.val, Env.at, lk, putd, AV.cells?, ok1, okM, abin, Option.getD_some, if_true, if_false, List.getElem?_cons_zero, List.getElem?_cons_succ, Bool.not_true, Bool.not_false, reduceIte, reduceCtorEq, Nat.reduceEqDiff, Nat.reduceAdd, Nat.reduceMul, Nat.reduceLT, Nat.reduceSub, decide_true, decide_false, Bool.false_eq_true, Bool.true_eq_false, resAll, resOf, Option.some.injEq, List.cons.injEq, AV.bool.injEq, AV.int.injEq, AV.str.injEq, and_true, true_and, List.nil_append, List.append_nil, visH, List.filter_cons, List.filter_nil, List.flatMap_nil, List.flatMap_cons, List.contains_cons, List.contains_nil, Nat.reduceBEq, Bool.or_false, Bool.or_true, Bool.false_or, Bool.true_or, Nat.reduceLeDiff, aun, List.map_cons, List.map_nil, putAt, solid, List.all_cons, List.all_nil, Bool.and_true, Bool.and_self, List.length_cons, List.length_nil, List.drop_zero, List.take_succ_cons, List.take_zero, List.drop_succ_cons, Option.map_some, Option.map_none, List.cons_append, afill, rep, flat1, flat2, Int.reduceEq, Int.reduceLT, Int.reduceLE, Int.reduceNeg, Int.reduceAdd, Int.reduceSub, Int.reduceMul, Int.reduceToNat, AV.sl.injEq, and_assoc, exists_eq_left, exists_eq_left', AH.take1, List.reduceReplicate, List.flatten_cons, List.flatten_nil, List.set_cons_zero, List.set_cons_succ, aeqv, aeq, Bool.false_bne, bne_self_eq_false, Bool.true_bne, Int.cast_ofNat_Int, Int.reduceGT, Int.reduceGE]
    simp only [Tryd.fn17_r14, h0, h1, Int.toNat_natCast, and_self, hg, c1, w1, s1, AmR, Cd_beq, Cd_bne, Cd_nbeq, Rf_beq, Rf_bne, Rf_nbeq, Df_beq, Df_bne, Df_nbeq, kp, pushA, exe, number, Arg.val, Env.at, lk, putd, AV.cells?, ok1, okM, abin, Option.getD_some, if_true, if_false, List.getElem?_cons_zero, List.getElem?_cons_succ, Bool.not_true, Bool.not_false, reduceIte, reduceCtorEq, Nat.reduceEqDiff, Nat.reduceAdd, Nat.reduceMul, Nat.reduceLT, Nat.reduceSub, decide_true, decide_false, Bool.false_eq_true, Bool.true_eq_false, resAll, resOf, Option.some.injEq, List.cons.injEq, AV.bool.injEq, AV.int.injEq, AV.str.injEq, and_true, true_and, List.nil_append, List.append_nil, visH, List.filter_cons, List.filter_nil, List.flatMap_nil, List.flatMap_cons, List.contains_cons, List.contains_nil, Nat.reduceBEq, Bool.or_false, Bool.or_true, Bool.false_or, Bool.true_or, Nat.reduceLeDiff, aun, List.map_cons, List.map_nil, putAt, solid, List.all_cons, List.all_nil, Bool.and_true, Bool.and_self, List.length_cons, List.length_nil, List.drop_zero, List.take_succ_cons, List.take_zero, List.drop_succ_cons, Option.map_some, Option.map_none, List.cons_append, afill, rep, flat1, flat2, Int.reduceEq, Int.reduceLT, Int.reduceLE, Int.reduceNeg, Int.reduceAdd, Int.reduceSub, Int.reduceMul, Int.reduceToNat, AV.sl.injEq, and_assoc, exists_eq_left, exists_eq_left', AH.take1, List.reduceReplicate, List.flatten_cons, List.flatten_nil, List.set_cons_zero, List.set_cons_succ, aeqv, aeq, Bool.false_bne, bne_self_eq_false, Bool.true_bne, Int.cast_ofNat_Int, Int.reduceGT, Int.reduceGE]
    simp only [Tryd.fn17_r15, h0, h1, Int.toNat_natCast, and_self, hg1, c2, w2, s2, AmR, Cd_beq, Cd_bne, Cd_nbeq, Rf_beq, Rf_bne, Rf_nbeq, Df_beq, Df_bne, Df_nbeq, kp, pushA, exe, number, Arg.val, Env.at, lk, putd, AV.cells?, ok1, okM, abin, Option.getD_some, if_true, if_false, List.getElem?_cons_zero, List.getElem?_cons_succ, Bool.not_true, Bool.not_false, reduceIte, reduceCtorEq, Nat.reduceEqDiff, Nat.reduceAdd, Nat.reduceMul, Nat.reduceLT, Nat.reduceSub, decide_true, decide_false, Bool.false_eq_true, Bool.true_eq_false, resAll, resOf, Option.some.injEq, List.cons.injEq, AV.bool.injEq, AV.int.injEq, AV.str.injEq, and_true, true_and, List.nil_append, List.append_nil, visH, List.filter_cons, List.filter_nil, List.flatMap_nil, List.flatMap_cons, List.contains_cons, List.contains_nil, Nat.reduceBEq, Bool.or_false, Bool.or_true, Bool.false_or, Bool.true_or, Nat.reduceLeDiff, aun, List.map_cons, List.map_nil, putAt, solid, List.all_cons, List.all_nil, Bool.and_true, Bool.and_self, List.length_cons, List.length_nil, List.drop_zero, List.take_succ_cons, List.take_zero, List.drop_succ_cons, Option.map_some, Option.map_none, List.cons_append, afill, rep, flat1, flat2, Int.reduceEq, Int.reduceLT, Int.reduceLE, Int.reduceNeg, Int.reduceAdd, Int.reduceSub, Int.reduceMul, Int.reduceToNat, AV.sl.injEq, and_assoc, exists_eq_left, exists_eq_left', AH.take1, List.reduceReplicate, List.flatten_cons, List.flatten_nil, List.set_cons_zero, List.set_cons_succ, aeqv, aeq, Bool.false_bne, bne_self_eq_false, Bool.true_bne, Int.cast_ofNat_Int, Int.reduceGT, Int.reduceGE]
    simp only [Tryd.fn17_r16, h0, h1, Int.toNat_natCast, and_self, cr, hv', AmR, Cd_beq, Cd_bne, Cd_nbeq, Rf_beq, Rf_bne, Rf_nbeq, Df_beq, Df_bne, Df_nbeq, kp, pushA, exe, number, Arg.val, Env.at, lk, putd, AV.cells?, ok1, okM, abin, Option.getD_some, if_true, if_false, List.getElem?_cons_zero, List.getElem?_cons_succ, Bool.not_true, Bool.not_false, reduceIte, reduceCtorEq, Nat.reduceEqDiff, Nat.reduceAdd, Nat.reduceMul, Nat.reduceLT, Nat.reduceSub, decide_true, decide_false, Bool.false_eq_true, Bool.true_eq_false, resAll, resOf, Option.some.injEq, List.cons.injEq, AV.bool.injEq, AV.int.injEq, AV.str.injEq, and_true, true_and, List.nil_append, List.append_nil, visH, List.filter_cons, List.filter_nil, List.flatMap_nil, List.flatMap_cons, List.contains_cons, List.contains_nil, Nat.reduceBEq, Bool.or_false, Bool.or_true, Bool.false_or, Bool.true_or, Nat.reduceLeDiff, aun, List.map_cons, List.map_nil, putAt, solid, List.all_cons, List.all_nil, Bool.and_true, Bool.and_self, List.length_cons, List.length_nil, List.drop_zero, List.take_succ_cons, List.take_zero, List.drop_succ_cons, Option.map_some, Option.map_none, List.cons_append, afill, rep, flat1, flat2, Int.reduceEq, Int.reduceLT, Int.reduceLE, Int.reduceNeg, Int.reduceAdd, Int.reduceSub, Int.reduceMul, Int.reduceToNat, AV.sl.injEq, and_assoc, exists_eq_left, exists_eq_left', AH.take1, List.reduceReplicate, List.flatten_cons, List.flatten_nil, List.set_cons_zero, List.set_cons_succ, aeqv, aeq, Bool.false_bne, bne_self_eq_false, Bool.true_bne, Int.cast_ofNat_Int, Int.reduceGT, Int.reduceGE]
    have hst : (l.take (i + 1)).map (sh n0) = (l.take i).map (sh n0) ++ [sh n0 x] := by rw [List.take_add_one, hx]; simp
    cases hsx : (sh n0 x).ok with
    | true =>
      simp only [Tryd.fn17_r18, hw, AmR, Cd_beq, Cd_bne, Cd_nbeq, Rf_beq, Rf_bne, Rf_nbeq, Df_beq, Df_bne, Df_nbeq, kp, pushA, exe, number, Arg.val, Env.at, lk, putd, AV.cells?, ok1, okM, abin, Option.getD_some, if_true, if_false, List.getElem?_cons_zero, List.getElem?_cons_succ, Bool.not_true, Bool.not_false, reduceIte, reduceCtorEq, Nat.reduceEqDiff, Nat.reduceAdd, Nat.reduceMul, Nat.reduceLT, Nat.reduceSub, decide_true, decide_false, Bool.false_eq_true, Bool.true_eq_false, resAll, resOf, Option.some.injEq, List.cons.injEq, AV.bool.injEq, AV.int.injEq, AV.str.injEq, and_true, true_and, List.nil_append, List.append_nil, visH, List.filter_cons, List.filter_nil, List.flatMap_nil, List.flatMap_cons, List.contains_cons, List.contains_nil, Nat.reduceBEq, Bool.or_false, Bool.or_true, Bool.false_or, Bool.true_or, Nat.reduceLeDiff, aun, List.map_cons, List.map_nil, putAt, solid, List.all_cons, List.all_nil, Bool.and_true, Bool.and_self, List.length_cons, List.length_nil, List.drop_zero, List.take_succ_cons, List.take_zero, List.drop_succ_cons, Option.map_some, Option.map_none, List.cons_append, afill, rep, flat1, flat2, Int.reduceEq, Int.reduceLT, Int.reduceLE, Int.reduceNeg, Int.reduceAdd, Int.reduceSub, Int.reduceMul, Int.reduceToNat, AV.sl.injEq, and_assoc, exists_eq_left, exists_eq_left', AH.take1, List.reduceReplicate, List.flatten_cons, List.flatten_nil, List.set_cons_zero, List.set_cons_succ, aeqv, aeq, Bool.false_bne, bne_self_eq_false, Bool.true_bne, Int.cast_ofNat_Int, Int.reduceGT, Int.reduceGE]
      refine ih (i + 1) H2 (by omega) ?_ o2 hk hr
      unfold okL at ho ⊢
      rw [hst, List.all_append, ho]; simp [hsx]
    | false =>
      simp only [Tryd.fn17_r17, AmR, Cd_beq, Cd_bne, Cd_nbeq, Rf_beq, Rf_bne, Rf_nbeq, Df_beq, Df_bne, Df_nbeq, kp, pushA, exe, number, Arg.val, Env.at, lk, putd, AV.cells?, ok1, okM, abin, Option.getD_some, if_true, if_false, List.getElem?_cons_zero, List.getElem?_cons_succ, Bool.not_true, Bool.not_false, reduceIte, reduceCtorEq, Nat.reduceEqDiff, Nat.reduceAdd, Nat.reduceMul, Nat.reduceLT, Nat.reduceSub, decide_true, decide_false, Bool.false_eq_true, Bool.true_eq_false, resAll, resOf, Option.some.injEq, List.cons.injEq, AV.bool.injEq, AV.int.injEq, AV.str.injEq, and_true, true_and, List.nil_append, List.append_nil, visH, List.filter_cons, List.filter_nil, List.flatMap_nil, List.flatMap_cons, List.contains_cons, List.contains_nil, Nat.reduceBEq, Bool.or_false, Bool.or_true, Bool.false_or, Bool.true_or, Nat.reduceLeDiff, aun, List.map_cons, List.map_nil, putAt, solid, List.all_cons, List.all_nil, Bool.and_true, Bool.and_self, List.length_cons, List.length_nil, List.drop_zero, List.take_succ_cons, List.take_zero, List.drop_succ_cons, Option.map_some, Option.map_none, List.cons_append, afill, rep, flat1, flat2, Int.reduceEq, Int.reduceLT, Int.reduceLE, Int.reduceNeg, Int.reduceAdd, Int.reduceSub, Int.reduceMul, Int.reduceToNat, AV.sl.injEq, and_assoc, exists_eq_left, exists_eq_left', AH.take1, List.reduceReplicate, List.flatten_cons, List.flatten_nil, List.set_cons_zero, List.set_cons_succ, aeqv, aeq, Bool.false_bne, bne_self_eq_false, Bool.true_bne, Int.cast_ofNat_Int, Int.reduceGT, Int.reduceGE]
      refine hr ?_ _ _ rfl rfl
      unfold okL
      rw [List.all_eq_false]
      exact ⟨sh n0 x, List.mem_map_of_mem hxm, by simp [hsx]⟩

end Go.Am
