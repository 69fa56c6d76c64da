/-
The reference's Table, and the law of tables. Conditions: those that each theorem names.
-/
import Derived.Test.YtolilamofgildaaDoorAmI
set_option linter.unusedSimpArgs false
set_option linter.unusedVariables false
namespace Go.Am

theorem Tryd.refOut (lo : Nat) (H0 : AH) (n : Nat) (hn : n ≤ lo) (v wv : AV) (w : List Nat) (hw : WidV H0 wv w) (hwn : ∀ i o z m c, wv = .sl i o z m c → i < lo) (hwb : ∀ x ∈ w, x ≤ 4000000) (rows : List (List (List UInt8))) (hv : TabV n H0 v rows) (hs : ∀ r ∈ rows, r ≠ [] ∧ r.length ≤ 4000000 ∧ (∀ s ∈ r, s ≠ [] ∧ s.length ≤ 4000000) ∧ fitsW w r) (hil : rows.length ≤ 4000000) (T : Nat) (K : AX → St → Prop) (ks : List Fr) (L : ACode) (hL : L = .loop (some [0, 6, 7, 8]) Tryd.fn11_l1) :
    ∀ (m i : Nat) (b : List UInt8) (ov : AV) (H : AH), m + i = rows.length → ByV lo H ov b → Kept lo H0 H → Names H → (b ++ tabTxt w (rows.drop i)).length = T → b.length ≤ 1048576 →
      (∀ H' ov' x y, ByV lo H' ov' (b ++ tabTxt w (rows.drop i)) → Kept lo H0 H' → Names H' → T ≤ 1048576 → Nx Tryd.call K ks [(61, .bool false), (0, v), (6, wv), (7, ov'), (8, x), (61, y)] H') →
      (∀ e H', Kept lo H0 H' → Names H' → 1048576 < T → e.at 2 = .str [] → e.at 3 = .int .i64 6 → Rt Tryd.call K ks e H') →
      W Tryd.call K (.block 4 :: ks) [(0, v), (6, wv), (7, ov), (8, .int .i64 i)] H L := by
  have hvl := hv.lenS
  intro m
  induction m with
  | zero =>
    intro i b ov H hi hb hK hN hT hb2 hd hf
    refine W_loopN hL ?_
    have hi' : i = rows.length := by omega
    subst hi'
    rw [List.drop_length] at hd hT
    simp only [tabTxt, List.flatMap_nil, List.append_nil] at hd hT
    simp only [Tryd.fn11_l1, Tryd.fn11_r16, hvl, AmR, kp, pushA, exe, Arg.val, Env.at, lk, putd, ok1, okM, abin, Option.getD_some, if_true, if_false, reduceCtorEq, Nat.reduceEqDiff, Option.map_some, ↓exe_lenl]
    exact ⟨fun h => absurd h (by omega), fun _ => hd H ov _ _ hb hK hN (by omega)⟩
  | succ m ih =>
    intro i b ov H hi hb hK hN hT hb2 hd hf
    refine W_loopN hL ?_
    have hilt : i < rows.length := by omega
    have hr : rows[i]? = some rows[i] := List.getElem?_eq_getElem hilt
    obtain ⟨hrne, hrl, hsc, hft⟩ := hs _ (List.mem_of_getElem? hr)
    rw [drop_cons' hr] at hT hd
    have et : ∀ r, tabTxt w (r :: rows.drop (i + 1)) = rowTxt w r ++ ([10] ++ tabTxt w (rows.drop (i + 1))) := fun r => by simp [tabTxt]
    rw [et, ← List.append_assoc] at hT hd
    have hin := Tryd.refIn lo H0 n hn v wv w hw hwn hwb rows hv i rows[i] hr hsc hrl hil hft T (1 + (tabTxt w (rows.drop (i + 1))).length) (by omega)
    generalize rows[i] = r at *
    have hi1 : ((i : Int) < (rows.length : Int)) = True := eq_true (by omega)
    have hwi := succ_wrap (i := i) (by omega)
    have hr0 : 0 < r.length := List.length_pos_iff.2 hrne
    simp only [Tryd.fn11_l1, Tryd.fn11_r16, hvl, hi1, AmR, kp, pushA, exe, Arg.val, Env.at, lk, putd, ok1, okM, abin, Option.getD_some, if_true, if_false, reduceCtorEq, Nat.reduceEqDiff, decide_true, Option.map_some, ↓exe_lenl]
    simp only [Tryd.fn11_r17, AmR, kp, exe, Arg.val, Env.at, lk, putd, ok1, Option.getD_some, if_true, if_false, reduceCtorEq, Nat.reduceEqDiff]
    refine hin K _ _ rfl r.length 0 b ov H (by omega) hb hK hN (by rw [List.drop_zero, List.drop_zero, ← hT, List.length_append, List.length_append, List.length_append, List.length_append]; rfl) (by rw [List.drop_zero, List.drop_zero]; exact hft) (fun h => absurd h (by omega)) hb2 (fun H' ov' x y h1 h2 h3 h4 => ?_) fun e H' h1 h2 h3 h4 h5 => ?_
    · rw [List.drop_zero, List.drop_zero] at h1 h4
      obtain ⟨ov2, H2, a1, a2, a3, a4⟩ := (h1.push 5 true [.int .u8 10]).app [10] (by simp) (by have := h4 hr0; simp only [List.length_cons, List.length_nil]; omega)
      have ob : ofBytes [10] = [.int .u8 10] := rfl
      rw [ob] at a1
      have c1 : (H'.push 5 true [.int .u8 10]).cellsAt H'.next 0 1 = some [.int .u8 10] := cellsAt_new _ _ _ _ rfl
      have hlo : lo ≤ H'.next := by obtain ⟨_, _, _, _, h, _⟩ := h1; exact h
      simp only [Tryd.fn11_r25, takeFrom, c1, a1, AmR, kp, exe, Arg.val, Env.at, lk, putd, AV.cells?, ok1, Option.getD_some, if_true, if_false, reduceCtorEq, Nat.reduceEqDiff, Nat.reduceAdd, Nat.reduceMul, Bool.true_eq_false, and_true, List.append_nil, Nat.reduceLeDiff, List.map_cons, List.map_nil, putAt, solid, List.all_cons, List.all_nil, Bool.and_self, List.length_cons, List.length_nil, afill, rep, List.reduceReplicate, List.flatten_cons, List.flatten_nil, List.set_cons_zero]
      simp only [Tryd.fn11_r26, hwi, AmR, kp, exe, Arg.val, Env.at, lk, putd, ok1, okM, abin, Option.getD_some, if_true, if_false, reduceCtorEq, Nat.reduceEqDiff]
      have e1 : ∀ t, b ++ rowTxt w r ++ ([10] ++ t) = b ++ rowTxt w r ++ [10] ++ t := fun t => by simp
      refine ih (i + 1) _ ov2 H2 (by omega) a2 ((h2.trans (Kept.push lo H' hlo _ _ _)).trans a3) (a4 (h3.push _ _ _)) (by rw [← e1]; exact hT) (by rw [List.length_append]; have := h4 hr0; simp only [List.length_cons, List.length_nil]; omega) (fun H3 ov3 x' y' k1 k2 k3 k4 => hd H3 ov3 x' y' (by rw [e1]; exact k1) k2 k3 k4) hf
    · simp only [Rt_block, Rt_code]
      exact hf e H' h1 h2 h3 h4 h5

theorem Tryd.tableRef (H : AH) (hNm : Names H) (hfl : H.floor ≤ H.next) (v : AV) (rows : List (List (List UInt8))) (hv : TabV H.next H v rows) (hs : ∀ r ∈ rows, r.length ≤ 4000000 ∧ ∀ s ∈ r, s.length ≤ 4000000) (hil : rows.length ≤ 4000000) :
    ∃ H', Tryd.call 11 [v] H = some (.ok (.tup [.str (tableS rows), .int .i64 (tableE rows)]), H') ∧ Kept H.next H H' ∧ Names H' := by
  have hvl := hv.lenS
  cases hrows : rows with
  | nil =>
    rw [hrows] at hvl
    refine ⟨H, ?_, Kept.refl _ _, hNm⟩
    refine ecall_W 6 [] _ _ (out := [.str [], .int .i64 0]) rfl rfl rfl ?_
    show W Tryd.call _ _ _ _ _
    have c0 : ((([] : List (List (List UInt8))).length : Int) == 0) = true := rfl
    have c1 : ((0 : Int) < (([] : List (List (List UInt8))).length : Int)) = False := by simp
    simp only [Tryd.fn11, Tryd.fn11_r0, AmR, kp, exe, number, Arg.val, Env.at, lk, putd, ok1, Option.getD_some, if_true, if_false, reduceCtorEq]
    simp only [Tryd.fn11_r1, AmR, kp, exe, Arg.val, Env.at, lk, putd, ok1, Option.getD_some, if_true, if_false, reduceCtorEq]
    refine W_loopN rfl ?_
    simp only [Tryd.fn11_l3, Tryd.fn11_r2, hvl, c1, AmR, kp, pushA, exe, Arg.val, Env.at, lk, putd, ok1, okM, abin, Option.getD_some, if_true, if_false, reduceCtorEq, Nat.reduceEqDiff, decide_false, Option.map_some, ↓exe_lenl]
    simp only [Tryd.fn11_r11, Tryd.fn11_r12, hvl, c0, exactK_ret, AmR, kp, pushA, exe, Arg.val, Env.at, lk, putd, ok1, okM, abin, Option.getD_some, if_true, if_false, reduceCtorEq, Nat.reduceEqDiff, resAll, resOf, and_true, Option.map_some, ↓exe_lenl]
  | cons r0 rest =>
    rw [← hrows]
    have hne : rows ≠ [] := by rw [hrows]; simp
    have hhd : rows.headD [] = r0 := by rw [hrows]; rfl
    have hr0 : rows[0]? = some r0 := by rw [hrows]; rfl
    have hlen : 0 < rows.length := by rw [hrows]; simp
    have htb : tabB rows = rows.all (rowB r0.length) := by unfold tabB; rw [hhd]
    have hrr := Tryd.refRows H.next H hNm v rows hv r0 hr0 hs hil
    have c0 : ((rows.length : Int) == 0) = false := beq_eq_false_iff_ne.2 (by omega)
    obtain ⟨vs, H', ⟨h1, h2, h3⟩, hc⟩ := ecall_E 6 [] (lk Tryd.ext) (lk Tryd.tab) (f := 11) (fn := Tryd.fn11) (args := [v]) (H := H) (R := fun vs H' => vs = [.str (tableS rows), .int .i64 (tableE rows)] ∧ Kept H.next H H' ∧ Names H') rfl rfl rfl (by
      show W Tryd.call _ _ _ _ _
      simp only [Tryd.fn11, Tryd.fn11_r0, AmR, kp, exe, number, Arg.val, Env.at, lk, putd, ok1, Option.getD_some, if_true, if_false, reduceCtorEq]
      simp only [Tryd.fn11_r1, AmR, kp, exe, Arg.val, Env.at, lk, putd, ok1, Option.getD_some, if_true, if_false, reduceCtorEq]
      refine hrr _ _ _ rfl rows.length 0 (by omega) (fun hall a b => ?_) fun hall e h2 h3 => ?_
      · rw [List.drop_zero, ← htb] at hall
        have hg := tabB_len hall
        rw [hhd] at hg
        have hfit := wid_fits (n := r0.length) fun r hr => (hg r hr).2.1
        have hwr := Tryd.widthsRef H hNm hfl v rows hv hne r0.length (by rw [hhd]) (hs r0 (List.mem_of_getElem? hr0)).1 (fun r hr => ⟨(hg r hr).2.1, (hs r hr).2⟩) hil
        have hlw : (wid r0.length rows).length = r0.length := wid_len fun r hr => (hg r hr).2.1
        have hT : tableT rows = tabTxt (wid r0.length rows) rows := by unfold tableT; rw [hhd]
        have hwb : ∀ x ∈ wid r0.length rows, x ≤ 4000000 := by
          refine wid_le (n := 0) (fun x hx => ?_) fun r hr => (hs r hr).2
          rw [List.mem_replicate] at hx
          omega
        generalize wid r0.length rows = w at *
        have hwv : WidV (H.push 3 false (intsC w)) (.sl H.next 0 1 r0.length (some r0.length)) w := by
          rw [← hlw]
          have := SliceV.sl (H := H.push 3 false (intsC w)) (z := 1) (i := H.next) (o := 0) (n := w.length) (c := some w.length) (get_push_new H 3 false (intsC w)) (by simp [intsC])
          rw [List.drop_zero, List.take_of_length_le (by simp [intsC])] at this
          exact this
        have hv1 : TabV H.next (H.push 3 false (intsC w)) v rows := hv.push _ _ _
        have hN1 := hNm.push 3 false (intsC w)
        generalize hH1 : H.push 3 false (intsC w) = H1 at *
        have hn1 : H1.next = H.next + 1 := by rw [← hH1]; rfl
        have hf1 : H1.floor = H.floor := by rw [← hH1]; rfl
        have hK1 : Kept H.next H H1 := by rw [← hH1]; exact Kept.push _ _ (Nat.le_refl _) _ _ _
        simp only [Tryd.fn11_r11, hvl, c0, AmR, kp, pushA, exe, Arg.val, Env.at, lk, putd, ok1, okM, abin, Option.getD_some, if_true, if_false, reduceCtorEq, Nat.reduceEqDiff, Option.map_some, ↓exe_lenl]
        simp only [Tryd.fn11_r13, hwr, AmR, kp, exe, Arg.val, Env.at, lk, putd, ok1, Option.getD_some, if_true, if_false, reduceCtorEq, Nat.reduceEqDiff, List.map_cons, List.map_nil]
        simp only [Tryd.fn11_r14, AmR, kp, exe, Arg.val, Env.at, lk, putd, ok1, Option.getD_some, if_true, if_false, reduceCtorEq, Nat.reduceEqDiff, List.map_nil, afill, rep, List.reduceReplicate, List.flatten_nil]
        simp only [Tryd.fn11_r15, AmR, kp, exe, Arg.val, Env.at, lk, putd, ok1, Option.getD_some, if_true, if_false, reduceCtorEq, Nat.reduceEqDiff]
        have hby : ByV H1.next (H1.push 5 true []) (.sl H1.next 0 1 0 (some 0)) [] := ⟨H1.next, some 0, rfl, Nat.le_refl _, Nat.le_succ _, own_new H1 5 true [] (some 0) (by omega) rfl (.inl rfl) (by omega)⟩
        refine Tryd.refOut H1.next H1 H.next (by omega) v _ w hwv (fun i o z m c e => by cases e; omega) hwb rows hv1 (fun r hr => ⟨(hg r hr).1, (hs r hr).1, fun s hs' => ⟨((hg r hr).2.2 s hs').ne, (hs r hr).2 s hs'⟩, hfit r hr⟩) hil (tabTxt w rows).length _ _ _ rfl rows.length 0 [] _ _ (by omega) hby (Kept.push _ _ (Nat.le_refl _) _ _ _) (hN1.push _ _ _) (by rw [List.drop_zero, List.nil_append]) (by simp) (fun H' ov' x y a1 a2 a3 a4 => ?_) fun e H' a1 a2 a3 a4 a5 => ?_
        · rw [List.drop_zero, List.nil_append] at a1
          have hE : tableE rows = 0 := by unfold tableE; rw [if_pos hall, hT, if_pos a4]
          have hS : tableS rows = tabTxt w rows := by unfold tableS; rw [if_pos hE, hT]
          have hb2 : ∀ e, exe Tryd.call ((107, ov') :: e) (.b2s (.t 107)) H' = ok1 H' (.str (tabTxt w rows)) := fun e => exe_b2s a1 _ _ _ (by simp [Arg.val, Env.at, lk])
          have hby := a1.bytes
          obtain ⟨q, c, rfl, _⟩ := a1
          simp only [takeFrom, if_true] at hby
          rw [Nat.mul_one] at hby
          rw [hE, hS]
          simp only [Tryd.fn11_r27, takeFrom, Nat.mul_one, hby, toBytes_of, endK_ret, AmR, kp, exe, Arg.val, Env.at, lk, putd, ok1, okM, Option.getD_some, if_true, if_false, reduceCtorEq, Nat.reduceEqDiff, resAll, resOf, Option.some.injEq, true_and, Option.map_some, exists_eq_left']
          exact ⟨hK1.trans ⟨a2.1, a2.2.1, fun i hi => a2.2.2 i (by omega)⟩, a3⟩
        · have hE : tableE rows = 6 := by unfold tableE; rw [if_pos hall, hT, if_neg (by omega)]
          have hS : tableS rows = [] := by unfold tableS; rw [if_neg (by rw [hE]; simp)]
          simp only [Rt_code, Rt_nil, endK_ret, resAll, resOf, a4, a5, Option.some.injEq, exists_eq_left']
          exact ⟨by rw [hE, hS], hK1.trans ⟨a1.1, a1.2.1, fun i hi => a1.2.2 i (by omega)⟩, a2⟩
      · rw [List.drop_zero, ← htb] at hall
        have hE : tableE rows = 1 := by unfold tableE; rw [if_neg (by rw [hall]; simp)]
        have hS : tableS rows = [] := by unfold tableS; rw [if_neg (by rw [hE]; simp)]
        simp only [Rt_code, Rt_nil, endK_ret, resAll, resOf, h2, h3, Option.some.injEq, exists_eq_left']
        exact ⟨by rw [hE, hS], Kept.refl _ _, hNm⟩)
    subst h1
    exact ⟨H', hc, h2, h3⟩

end Go.Am
