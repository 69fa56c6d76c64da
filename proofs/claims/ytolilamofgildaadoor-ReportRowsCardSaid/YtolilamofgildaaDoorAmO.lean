/-
The reference's Rows, and the law of rows. Conditions: those that each theorem names.
-/
import Derived.Test.YtolilamofgildaaDoorAmN
set_option linter.unusedSimpArgs false
set_option linter.unusedVariables false
namespace Go.Am

theorem Tryd.refRowsLoop (s0 : List UInt8) (n : Nat) (H0 : AH) (fl : AV) (wh : Bool) (lines : List (List UInt8)) (hv : StrsV n H0 fl lines) (hs : ∀ l ∈ lines, l.length ≤ 4000000) (hll : lines.length ≤ 4000000) (lo : Nat) (hlo : n ≤ lo) (K : AX → St → Prop) (ks : List Fr) (L : ACode) (hL : L = .loop (some [0, 4, 5, 6, 7]) Tryd.fn18_l0) :
    ∀ (m i : Nat) (acc : List (List (List UInt8))) (v : AV) (H : AH), m + i = lines.length → acc.length = i → TabA lo H v acc → Kept lo H0 H → Names H →
      (∀ v' H' w w', TabA lo H' v' (acc ++ (lines.drop i).map cellsL) → Kept lo H0 H' → Names H' → Nx Tryd.call K ks [(22, .bool false), (0, .str s0), (4, fl), (5, .bool wh), (6, v'), (7, w), (22, w')] H') →
      W Tryd.call K (.block 0 :: ks) [(0, .str s0), (4, fl), (5, .bool wh), (6, v), (7, .int .i64 i)] H L := by
  have hvl := hv.lenS
  intro m
  induction m with
  | zero =>
    intro i acc v H hi hac ha hK hN hd
    refine W_loopN hL ?_
    have hi' : i = lines.length := by omega
    subst hi'
    have hlt : ((lines.length : Int) < (lines.length : Int)) = False := eq_false (by omega)
    simp only [Tryd.fn18_l0, Tryd.fn18_r6, hvl, hlt, AmR, kp, pushA, exe, Arg.val, Env.at, lk, putd, ok1, okM, abin, Option.getD_some, if_true, if_false, reduceCtorEq, Nat.reduceEqDiff, decide_false, Option.map_some, ↓exe_lenl]
    exact hd v H _ _ (by simpa using ha) hK hN
  | succ m ih =>
    intro i acc v H hi hac ha hK hN hd
    refine W_loopN hL ?_
    have hlt : ((i : Int) < (lines.length : Int)) = True := eq_true (by omega)
    have hl : lines[i]? = some lines[i] := List.getElem?_eq_getElem (by omega)
    have hll' := hs _ (List.mem_of_getElem? hl)
    obtain ⟨q, o, c, bk, e1, e2, e3⟩ := hv.cell hl
    rw [drop_cons' hl, List.map_cons] at hd
    generalize lines[i] = l at *
    have hq : q < lo := Nat.lt_of_lt_of_le (hv.2 _ _ _ _ _ e1) hlo
    have e2' : H.get q = some bk := (hK.2.2 q hq).trans e2
    have h0 : (0 : Int) ≤ (i : Int) := by omega
    have hw := succ_wrap (i := i) (by omega)
    obtain ⟨cv, H1, b1, b2, b3, b4, b5⟩ := Tryd.refCellsOf l hll' H hN
    obtain ⟨hsol, hcel⟩ := b2.1.solid
    obtain ⟨v', H2, c1, c2, c3, c4⟩ := ha.snoc b3 b2 b5 (by omega)
    have cc : (H1.push 29 true [cv]).cellsAt H1.next 0 1 = some [cv] := cellsAt_new _ _ _ _ rfl
    have hlo2 : lo ≤ H.next := ha.1
    simp only [Tryd.fn18_l0, Tryd.fn18_r6, hvl, hlt, AmR, kp, pushA, exe, Arg.val, Env.at, lk, putd, ok1, okM, abin, Option.getD_some, if_true, if_false, reduceCtorEq, Nat.reduceEqDiff, decide_true, Option.map_some, ↓exe_lenl]
    subst e1
    simp only [Tryd.fn18_r7, e2', e3, h0, Int.toNat_natCast, hlt, b1, hcel, takeFrom, cc, hsol, c1, AmR, kp, exe, Arg.val, Env.at, lk, putd, ok1, okM, Option.getD_some, if_true, if_false, reduceCtorEq, Nat.reduceEqDiff, Nat.reduceAdd, Nat.reduceMul, Bool.true_eq_false, and_true, List.append_nil, Nat.reduceLeDiff, List.map_cons, List.map_nil, putAt, List.all_cons, List.all_nil, Bool.and_self, List.length_cons, List.length_nil, afill, rep, List.reduceReplicate, List.flatten_cons, List.flatten_nil, List.set_cons_zero]
    simp only [Tryd.fn18_r8, hw, AmR, kp, exe, Arg.val, Env.at, lk, putd, ok1, okM, abin, Option.getD_some, if_true, if_false, reduceCtorEq, Nat.reduceEqDiff]
    exact ih (i + 1) (acc ++ [cellsL l]) v' H2 (by omega) (by simp; omega) c2 ((hK.trans (b3.kept hlo2)).trans c3) (c4 b4) (fun v3 H3 w w' k1 k2 k3 => hd v3 H3 w w' (by simpa using k1) k2 k3)

theorem linesR_len (s : List UInt8) : (linesR s).length ≤ s.length ∧ ∀ l ∈ linesR s, l.length ≤ s.length := by
  obtain ⟨h1, h2⟩ := linesL_len s
  unfold linesR
  split
  · rw [List.append_nil]; exact ⟨by omega, h2⟩
  · rename_i h
    have h3 : 0 < (linesL s).2.length := List.length_pos_iff.2 h
    refine ⟨by rw [List.length_append]; simp only [List.length_cons, List.length_nil]; omega, fun l hl => ?_⟩
    rcases List.mem_append.1 hl with hl | hl
    · exact h2 l hl
    · rw [List.mem_singleton.1 hl]; omega

theorem rowsR_bound {s : List UInt8} (hs : s.length ≤ 3000000) : ((linesR s).map cellsL).length ≤ 3000000 ∧ ∀ r ∈ (linesR s).map cellsL, r.length ≤ 4000000 ∧ ∀ x ∈ r, x.length ≤ 4000000 := by
  obtain ⟨h1, h2⟩ := linesR_len s
  refine ⟨by rw [List.length_map]; omega, fun r hr => ?_⟩
  obtain ⟨l, hl, rfl⟩ := List.mem_map.1 hr
  have h3 := h2 l hl
  obtain ⟨h4, h5⟩ := cellsF_len l.length l
  exact ⟨by show (cellsF l.length l).length ≤ _; omega, fun x hx => by have := h5 x hx; omega⟩

theorem Tryd.refRowsOf (s : List UInt8) (hs : s.length ≤ 3000000) (H : AH) (hN : Names H) (hfl : H.floor ≤ H.next) :
    ∃ v H', Tryd.call 18 [.str s] H = some (.ok (.tup [v, .int .i64 (rowsE s)]), H') ∧ TabV H'.next H' v (rowsS s) ∧ Kept H.next H H' ∧ Names H' := by
  have none : ∀ H, TabV H.next H .nils [] := fun _ => ⟨fun _ _ _ _ _ e => (by cases e), [], rfl, .nil, fun i u r hu => by simp at hu⟩
  by_cases hbig : (s.length : Int) > 1048576
  · have e1 : ((s.length : Int) > 1048576) = True := eq_true hbig
    have hE : rowsE s = 6 := by unfold rowsE; rw [if_neg (by omega)]
    have hS : rowsS s = [] := by unfold rowsS; rw [if_neg (by rw [hE]; simp)]
    refine ⟨.nils, H, ?_, by rw [hS]; exact none _, Kept.refl _ _, hN⟩
    refine ecall_W 6 [] _ _ (out := [.nils, .int .i64 (rowsE s)]) rfl rfl rfl ?_
    show W Tryd.call _ _ _ _ _
    rw [hE]
    simp only [Tryd.fn18, Tryd.fn18_r0, AmR, kp, exe, number, Arg.val, Env.at, lk, putd, ok1, Option.getD_some, if_true, if_false, reduceCtorEq]
    simp only [Tryd.fn18_r1, e1, AmR, kp, pushA, exe, Arg.val, Env.at, lk, putd, ok1, okM, abin, Option.getD_some, if_true, if_false, reduceCtorEq, Nat.reduceEqDiff, decide_true]
    simp only [Tryd.fn18_r2, exactK_ret, AmR, kp, exe, Arg.val, Env.at, lk, putd, ok1, Option.getD_some, if_true, if_false, reduceCtorEq, Nat.reduceEqDiff, resAll, resOf, and_true]
  have e1 : ((s.length : Int) > 1048576) = False := eq_false hbig
  obtain ⟨vs, H', ⟨v, rfl, h1, h2, h3⟩, hc⟩ := ecall_E 6 [] (lk Tryd.ext) (lk Tryd.tab) (f := 18) (fn := Tryd.fn18) (args := [.str s]) (H := H) (R := fun vs H' => ∃ v, vs = [v, .int .i64 (rowsE s)] ∧ TabV H'.next H' v (rowsS s) ∧ Kept H.next H H' ∧ Names H') rfl rfl rfl (by
    show W Tryd.call _ _ _ _ _
    obtain ⟨fl, H1, l1, l2, l3, l4⟩ := Tryd.linesOf s (by omega) H hN
    obtain ⟨r1, r2⟩ := linesR_len s
    have ho : TabA H1.next (H1.push 29 true []) (.sl H1.next 0 1 0 (some 0)) [] := ⟨Nat.le_succ _, by show H1.floor ≤ H1.next; have h1 := l3.1; have h2 := l3.2.1; omega, .inr ⟨H1.next, some 0, [], rfl, Nat.le_refl _, rfl, own_new H1 29 true [] (some 0) (by omega) rfl (.inl rfl) (by have h1 := l3.1; have h2 := l3.2.1; omega), fun i u r hu => by simp at hu⟩⟩
    simp only [Tryd.fn18, Tryd.fn18_r0, AmR, kp, exe, number, Arg.val, Env.at, lk, putd, ok1, Option.getD_some, if_true, if_false, reduceCtorEq]
    simp only [Tryd.fn18_r1, e1, AmR, kp, pushA, exe, Arg.val, Env.at, lk, putd, ok1, okM, abin, Option.getD_some, if_true, if_false, reduceCtorEq, Nat.reduceEqDiff, decide_false]
    simp only [Tryd.fn18_r3, l1, AmR, kp, exe, Arg.val, Env.at, lk, putd, ok1, okM, Option.getD_some, if_true, if_false, List.getElem?_cons_zero, List.getElem?_cons_succ, reduceCtorEq, Nat.reduceEqDiff, List.map_cons, List.map_nil]
    simp only [Tryd.fn18_r4, AmR, kp, exe, Arg.val, Env.at, lk, putd, ok1, Option.getD_some, if_true, if_false, reduceCtorEq, Nat.reduceEqDiff, List.map_nil, afill, rep, List.reduceReplicate, List.flatten_nil]
    simp only [Tryd.fn18_r5, AmR, kp, exe, Arg.val, Env.at, lk, putd, ok1, Option.getD_some, if_true, if_false, reduceCtorEq, Nat.reduceEqDiff]
    refine Tryd.refRowsLoop s H1.next H1 fl _ (linesR s) l2 (fun l hl => by have := r2 l hl; omega) (by omega) H1.next (Nat.le_refl _) _ _ _ rfl (linesR s).length 0 [] _ _ (by omega) rfl ho (Kept.push _ _ (Nat.le_refl _) _ _ _) (l4.push _ _ _) fun v' H' w w' k1 k2 k3 => ?_
    rw [List.drop_zero, List.nil_append] at k1
    obtain ⟨b1, b2⟩ := rowsR_bound hs
    have hE : rowsE s = if (linesL s).2 = [] ∧ tableE ((linesR s).map cellsL) = 0 ∧ tableT ((linesR s).map cellsL) = s then 0 else 4 := by
      unfold rowsE
      rw [if_pos (by omega)]
      by_cases hr : (linesL s).2 = []
      · have hl : linesR s = (linesL s).1 := by simp [linesR, hr]
        rw [hl]
      · rw [if_neg (fun h => hr h.1), if_neg (fun h => hr h.1)]
    have hS : rowsS s = if rowsE s = 0 then (linesR s).map cellsL else [] := by
      show (if rowsE s = 0 then (linesL s).1.map cellsL else []) = _
      by_cases hr : (linesL s).2 = []
      · have hl : linesR s = (linesL s).1 := by simp [linesR, hr]
        rw [hl]
      · have : rowsE s = 4 := by rw [hE, if_neg (fun h => hr h.1)]
        rw [this]
        rfl
    have k0 : Kept H.next H H' := (l3.kept (Nat.le_refl _)).trans (Kept.trans (m := H.next) (Kept.refl _ _) ⟨k2.1, k2.2.1, fun i hi => k2.2.2 i (by have := l3.2.1; omega)⟩)
    generalize (linesR s).map cellsL = rows at *
    obtain ⟨H2, c1, c2, c3⟩ := Tryd.tableRef H' k3 (by have h1 := k0.1; have h2 := k0.2.1; omega) v' rows k1.tab b2 (by omega)
    have kk := k0.trans (Kept.trans (m := H.next) (Kept.refl _ _) ⟨c2.1, c2.2.1, fun i hi => c2.2.2 i (by have := k0.2.1; omega)⟩)
    simp only [Tryd.fn18_r9, c1, AmR, kp, exe, Arg.val, Env.at, lk, putd, ok1, okM, Option.getD_some, if_true, if_false, List.getElem?_cons_zero, List.getElem?_cons_succ, reduceCtorEq, Nat.reduceEqDiff, List.map_cons, List.map_nil]
    by_cases hok : tableE rows = 0
    · have f1 : (tableE rows = 0) = True := eq_true hok
      have hTS : tableS rows = tableT rows := by unfold tableS; rw [if_pos hok]
      by_cases hsame : tableT rows = s
      · have f2 : (tableS rows = s) = True := eq_true (by rw [hTS, hsame])
        by_cases hr : (linesL s).2 = []
        · have f3 : decide ((linesL s).2 = []) = true := decide_eq_true hr
          rw [if_pos ⟨hr, hok, hsame⟩] at hE
          rw [if_pos hE] at hS
          simp only [Tryd.fn18_r10, f1, f2, f3, false_implies, not_true_eq_false, true_implies, and_true, AmR, Rf_bne, Rf_nbeq, kp, exe, Arg.val, Env.at, lk, putd, ok1, okM, abin, Option.getD_some, if_true, if_false, Bool.not_true, reduceCtorEq, Nat.reduceEqDiff, Bool.false_eq_true, and_true, aun]
          simp only [Tryd.fn18_r11, AmR, kp, pushA, exe, Arg.val, Env.at, lk, putd, ok1, Option.getD_some, if_true, if_false, Nat.reduceEqDiff, Bool.false_eq_true]
          simp only [Tryd.fn18_r13, endK_ret, AmR, kp, exe, Arg.val, Env.at, lk, putd, ok1, Option.getD_some, if_true, if_false, Nat.reduceEqDiff, resAll, resOf, Option.some.injEq, List.cons.injEq, AV.int.injEq, and_true, true_and, and_assoc, exists_eq_left']
          exact ⟨by rw [hE], by rw [hS]; exact k1.tab.old c2.2.1 c2.2.2, kk, c3⟩
        · have f3 : decide ((linesL s).2 = []) = false := decide_eq_false hr
          rw [if_neg (fun h => hr h.1)] at hE
          rw [if_neg (by rw [hE]; simp)] at hS
          simp only [Tryd.fn18_r10, f1, f2, f3, false_implies, not_true_eq_false, true_implies, and_true, AmR, Rf_bne, Rf_nbeq, kp, exe, Arg.val, Env.at, lk, putd, ok1, okM, abin, Option.getD_some, if_true, if_false, Bool.not_false, reduceCtorEq, Nat.reduceEqDiff, Bool.false_eq_true, and_true, aun]
          simp only [Tryd.fn18_r11, AmR, kp, pushA, exe, Arg.val, Env.at, lk, putd, ok1, Option.getD_some, if_true, if_false, Nat.reduceEqDiff, Bool.false_eq_true]
          simp only [Tryd.fn18_r12, endK_ret, AmR, kp, exe, Arg.val, Env.at, lk, putd, ok1, Option.getD_some, if_true, if_false, Nat.reduceEqDiff, resAll, resOf, Option.some.injEq, List.cons.injEq, AV.int.injEq, and_true, true_and, and_assoc, exists_eq_left']
          exact ⟨by rw [hE], by rw [hS]; exact none _, kk, c3⟩
      · have f2 : (tableS rows = s) = False := eq_false (by rw [hTS]; exact hsame)
        rw [if_neg (fun h => hsame h.2.2)] at hE
        rw [if_neg (by rw [hE]; simp)] at hS
        simp only [Tryd.fn18_r10, f1, f2, false_implies, not_false_eq_true, not_true_eq_false, true_implies, true_and, and_true, AmR, Rf_bne, Rf_nbeq, kp, exe, Arg.val, Env.at, lk, putd, ok1, okM, abin, Option.getD_some, if_true, if_false, reduceCtorEq, Nat.reduceEqDiff, Bool.false_eq_true, and_true, true_and, aun]
        simp only [Tryd.fn18_r11, AmR, kp, pushA, exe, Arg.val, Env.at, lk, putd, ok1, Option.getD_some, if_true, if_false, Nat.reduceEqDiff]
        simp only [Tryd.fn18_r12, endK_ret, AmR, kp, exe, Arg.val, Env.at, lk, putd, ok1, Option.getD_some, if_true, if_false, Nat.reduceEqDiff, resAll, resOf, Option.some.injEq, List.cons.injEq, AV.int.injEq, and_true, true_and, and_assoc, exists_eq_left']
        exact ⟨by rw [hE], by rw [hS]; exact none _, kk, c3⟩
    · have f1 : (tableE rows = 0) = False := eq_false hok
      rw [if_neg (fun h => hok h.2.1)] at hE
      rw [if_neg (by rw [hE]; simp)] at hS
      simp only [Tryd.fn18_r10, f1, false_implies, not_false_eq_true, true_implies, true_and, AmR, Rf_bne, Rf_nbeq, kp, exe, Arg.val, Env.at, lk, putd, ok1, okM, abin, Option.getD_some, if_true, if_false, reduceCtorEq, Nat.reduceEqDiff, Bool.false_eq_true, true_and, aun]
      simp only [Tryd.fn18_r11, AmR, kp, pushA, exe, Arg.val, Env.at, lk, putd, ok1, Option.getD_some, if_true, if_false, Nat.reduceEqDiff]
      simp only [Tryd.fn18_r12, endK_ret, AmR, kp, exe, Arg.val, Env.at, lk, putd, ok1, Option.getD_some, if_true, if_false, Nat.reduceEqDiff, resAll, resOf, Option.some.injEq, List.cons.injEq, AV.int.injEq, and_true, true_and, and_assoc, exists_eq_left']
      exact ⟨by rw [hE], by rw [hS]; exact none _, kk, c3⟩)
  exact ⟨v, H', hc, h1, h2, h3⟩

end Go.Am
