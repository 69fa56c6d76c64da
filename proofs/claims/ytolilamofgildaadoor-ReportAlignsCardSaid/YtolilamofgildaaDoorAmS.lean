/-
The law of a table's columns: rows, and the law. Conditions: those that each theorem names.
-/
import Derived.Test.YtolilamofgildaaDoorAmR
import Derived.Test.YtolilamofgildaaDoorAmK
set_option linter.unusedSimpArgs false
set_option linter.unusedVariables false
namespace Go.Am

theorem Tryd.alRows (txt : List UInt8) (htl : txt.length ≤ 1048576) (v : AV) (n : Nat) (H0 : AH) (rows : List (List (List UInt8))) (hv : TabV n H0 v rows) (lo : Nat) (hlo : n ≤ lo) (w : List Nat) (nc : Nat) (hk : rows.length ≤ 4000000) (hc : nc ≤ 4000000)
    (r0 : List (List UInt8)) (hr0 : rows[0]? = some r0) (hr0l : r0.length = nc) (hrows : ∀ r ∈ rows, r ≠ [] ∧ r.length = nc ∧ fitsW w r ∧ ∀ s ∈ r, CellP s) (K : AX → St → Prop) (ks : List Fr) (L : ACode) (hL : L = .loop (some [0, 3, 5, 6, 7]) Tryd.fn4_l3) :
    ∀ (m k at' : Nat) (sv : AV) (H : AH), m + k = rows.length → at' ≤ txt.length → txt.drop at' = tabTxt w (rows.drop k) → StV w lo H sv (if k = 0 then 0 else nc) → Kept lo H0 H → Names H →
      (∀ H' a b, Nx Tryd.call K ks [(31, .bool false), (0, v), (3, .str txt), (5, a), (6, .int .i64 txt.length), (7, .int .i64 rows.length), (31, b)] H') →
      W Tryd.call K (.block 0 :: ks) [(0, v), (3, .str txt), (5, sv), (6, .int .i64 at'), (7, .int .i64 k)] H L := by
  have hvl := hv.lenS
  intro m
  induction m with
  | zero =>
    intro k at' sv H hm hal hT hst hK hN hd
    refine W_loopN hL ?_
    have hk' : k = rows.length := by omega
    subst hk'
    have hlt : ((rows.length : Int) < (rows.length : Int)) = False := eq_false (by omega)
    rw [List.drop_length] at hT
    have hat : at' = txt.length := by
      have := congrArg List.length hT
      simp [tabTxt] at this
      omega
    subst hat
    simp only [Tryd.fn4_l3, Tryd.fn4_r11, hvl, hlt, AmR, kp, pushA, exe, Arg.val, Env.at, lk, putd, ok1, okM, abin, Option.getD_some, if_true, if_false, reduceCtorEq, Nat.reduceEqDiff, decide_false, Option.map_some, ↓exe_lenl]
    exact hd H _ _
  | succ m ih =>
    intro k at' sv H hm hal hT hst hK hN hd
    refine W_loopN hL ?_
    have hr : rows[k]? = some rows[k] := List.getElem?_eq_getElem (by omega)
    obtain ⟨hrne, hrl, hf, hcell⟩ := hrows _ (List.mem_of_getElem? hr)
    rw [drop_cons' hr] at hT
    have et : ∀ r, tabTxt w (r :: rows.drop (k + 1)) = rowTxt w r ++ 10 :: tabTxt w (rows.drop (k + 1)) := fun r => by simp [tabTxt]
    rw [et] at hT
    have hcols := Tryd.alCols txt htl v n H0 rows hv lo hlo w k rows[k] hr hk (by omega) at' _ hT hf hcell
    obtain ⟨g1, g2, g3⟩ := row_end hT hcell
    obtain ⟨q1, o1, c1, bk, u, e1, e2, e3, hu⟩ := hv.row hr
    obtain ⟨q0, o0, c0, bk0, u0, e01, e02, e03, hu0⟩ := hv.row hr0
    have hpos : 0 < (rows[k]).length := List.length_pos_iff.2 hrne
    obtain ⟨sl, hlast⟩ : ∃ sl, (rows[k])[nc - 1]? = some sl := ⟨(rows[k])[nc - 1]'(by omega), List.getElem?_eq_getElem _⟩
    obtain ⟨f1, _, _, f5, f6, _⟩ := row_cols hT hf hcell hlast
    obtain ⟨f61, x, f62, f63⟩ := f6 (by omega)
    generalize rows[k] = r at *
    have hq1 : q1 < lo := Nat.lt_of_lt_of_le (hv.1 _ _ _ _ _ e1) hlo
    have hk0 : (0 : Int) ≤ (k : Int) := by omega
    have hk1 : ((k : Int) < (rows.length : Int)) = True := eq_true (by omega)
    have h00 : (0 : Int) ≤ 0 := Int.le_refl 0
    have h01 : ((0 : Int) < (rows.length : Int)) = True := eq_true (by omega)
    have e2' : H.get q1 = some bk := (hK.2.2 q1 hq1).trans e2
    have hul := hu.lenS
    have hul0 := hu0.lenS
    rw [hrl] at hul
    rw [hr0l] at hul0
    subst e1
    obtain ⟨rfl, rfl, rfl⟩ : q1 = q0 ∧ o1 = o0 ∧ c1 = c0 := by cases e01; exact ⟨rfl, rfl, rfl⟩
    have ebk : bk0 = bk := by rw [e2] at e02; cases e02; rfl
    subst ebk
    have e03' : bk0.cells[o1 + 0]? = some u0 := by simpa using e03
    have hNg : ∀ nx fl j, (AH.mk H.blks nx fl).get j = H.get j := fun _ _ _ => rfl
    have hnew := hN.new
    have hR : 0 < (rowTxt w r).length := by omega
    generalize he : at' + (rowTxt w r).length = e at *
    have hcols := hcols e rfl
    have heq1 : ((e : Int) == (txt.length : Int)) = false := beq_eq_false_iff_ne.2 (by omega)
    have heq2 : ((e : Int) == (at' : Int)) = false := beq_eq_false_iff_ne.2 (by omega)
    have hsub : IntKind.i64.wrap ((e : Int) - 1) = ((e - 1 : Nat) : Int) := by rw [IntWalk.i64_in _ (by omega)]; omega
    have he0 : (0 : Int) ≤ ((e - 1 : Nat) : Int) := by omega
    have hz : ((x.toNat : Int) == 32) = false := byteN (n := 32) (by omega) f63
    have hw1 := succ_wrap (i := e) (by omega)
    have hw2 := succ_wrap (i := k) (by omega)
    simp only [Tryd.fn4_l3, Tryd.fn4_r11, hvl, hk1, AmR, kp, pushA, exe, Arg.val, Env.at, lk, putd, ok1, okM, abin, Option.getD_some, if_true, if_false, reduceCtorEq, Nat.reduceEqDiff, decide_true, Option.map_some, ↓exe_lenl]
    refine W_drawn' (by kernel_rfl) ?_
    simp only [Tryd.fn4_r12, Tryd.fn4_r12a, hNg, hk0, hk1, h00, h01, e2', e3, e03, hul, hul0, hnew, Int.toNat_natCast, Int.toNat_zero, and_self, bne_self_eq_false, AmR, kp, pushA, exe, Arg.val, Env.at, lk, putd, ok1, okM, abin, Option.getD_some, if_true, if_false, reduceCtorEq, Nat.reduceEqDiff, Nat.reduceAdd, Nat.reduceMul, true_and, List.nil_append, visH, List.filter_nil, List.flatMap_nil, List.contains_cons, List.contains_nil, Bool.or_false, Option.map_some, bne_self_eq_false, ↓exe_lenl]
    simp only [Tryd.fn4_r14, AmR, kp, exe, Arg.val, Env.at, lk, putd, ok1, Option.getD_some, if_true, if_false, reduceCtorEq, Nat.reduceEqDiff]
    refine Tryd.alEnd txt htl _ sv H at' k e g1 K _ _ rfl (e - at') at' (by omega) (fun j h1 h2 => g2 j h1 h2) fun y => ?_
    simp only [Tryd.fn4_r17, heq1, heq2, AmR, kp, exe, Arg.val, Env.at, lk, putd, ok1, okM, abin, Option.getD_some, if_true, if_false, reduceCtorEq, Nat.reduceEqDiff, Bool.false_eq_true]
    simp only [Tryd.fn4_r18, hsub, he0, Int.toNat_natCast, f62, hz, AmR, kp, pushA, exe, Arg.val, Env.at, lk, putd, ok1, okM, abin, Option.getD_some, if_true, if_false, reduceCtorEq, Nat.reduceEqDiff, Bool.false_eq_true, Option.map_some]
    simp only [Tryd.fn4_r20, AmR, kp, exe, Arg.val, Env.at, lk, putd, ok1, Option.getD_some, if_true, if_false, reduceCtorEq, Nat.reduceEqDiff]
    simp only [Tryd.fn4_r21, AmR, kp, exe, Arg.val, Env.at, lk, putd, ok1, Option.getD_some, if_true, if_false, reduceCtorEq, Nat.reduceEqDiff]
    refine hcols K _ _ rfl r.length 0 0 sv H (by omega) (fun _ => rfl) (fun c' s h => by omega) (by rw [hrl]; exact hst) hK hN fun p' sv' H' a b k1 k2 k3 k4 => ?_
    have hp' := k1 (nc - 1) sl (by omega) hlast
    have hw3 := add_wrap (a := at') (b := p') (by omega)
    have hpe : at' + p' = e := by omega
    rw [hpe] at hw3
    simp only [Tryd.fn4_r39, hw3, bne_self_eq_false, AmR, kp, pushA, exe, Arg.val, Env.at, lk, putd, ok1, okM, abin, Option.getD_some, if_true, if_false, reduceCtorEq, Nat.reduceEqDiff, bne_self_eq_false]
    simp only [Tryd.fn4_r41, hw1, AmR, kp, exe, Arg.val, Env.at, lk, putd, ok1, okM, abin, Option.getD_some, if_true, if_false, reduceCtorEq, Nat.reduceEqDiff]
    simp only [Tryd.fn4_r42, hw2, AmR, kp, exe, Arg.val, Env.at, lk, putd, ok1, okM, abin, Option.getD_some, if_true, if_false, reduceCtorEq, Nat.reduceEqDiff]
    have hd2 : txt.drop (e + 1) = tabTxt w (rows.drop (k + 1)) := by
      rw [← he, Nat.add_assoc, ← List.drop_drop, hT]
      have ea : rowTxt w r ++ 10 :: tabTxt w (rows.drop (k + 1)) = (rowTxt w r ++ [10]) ++ tabTxt w (rows.drop (k + 1)) := by simp
      rw [ea, show (rowTxt w r).length + 1 = (rowTxt w r ++ [10]).length by simp, List.drop_left]
    exact ih (k + 1) (e + 1) sv' H' (by omega) (by omega) hd2 (by rw [if_neg (by omega)]; rw [hrl] at k2; exact k2) k3 k4 hd

theorem Tryd.lawAligns (H : AH) (hNm : Names H) (hfl : H.floor ≤ H.next) (v : AV) (rows : List (List (List UInt8))) (hv : TabV H.next H v rows) : ∃ H', Tryd.call 4 [v] H = some (.ok (.bool true), H') := by
  have hlv := Tryd.lives H
  have hsm := Tryd.small H.next H v rows hv
  obtain ⟨vs, H', rfl, hc⟩ := ecall_E 6 [] (lk Tryd.ext) (lk Tryd.tab) (f := 4) (fn := Tryd.fn4) (args := [v]) (H := H) (R := fun vs H' => vs = [.bool true]) rfl rfl rfl (by
    show W Tryd.call _ _ _ _ _
    cases hb : smallB rows with
    | false =>
      rw [hb] at hsm
      simp only [Tryd.fn4, Tryd.fn4_r0, Tryd.fn4_r1, hlv, AmR, kp, pushA, exe, number, Arg.val, Env.at, lk, putd, ok1, okM, Option.getD_some, if_true, if_false, Bool.not_true, reduceCtorEq, Nat.reduceEqDiff, aun, List.map_nil]
      simp only [Tryd.fn4_r3, hsm, AmR, kp, pushA, exe, Arg.val, Env.at, lk, putd, ok1, okM, Option.getD_some, if_true, if_false, Bool.not_false, reduceCtorEq, Nat.reduceEqDiff, aun, List.map_cons, List.map_nil]
      simp only [Tryd.fn4_r4, endK_ret, AmR, kp, exe, Arg.val, Env.at, lk, putd, ok1, Option.getD_some, if_true, if_false, reduceCtorEq, Nat.reduceEqDiff, resAll, resOf, Option.some.injEq, exists_eq_left']
    | true =>
      rw [hb] at hsm
      obtain ⟨h1, h2⟩ := smallB_le hb
      have hs : ∀ r ∈ rows, r.length ≤ 4000000 ∧ ∀ s ∈ r, s.length ≤ 4000000 := fun r hr => ⟨by have := (h2 r hr).1; omega, fun s hs => by have := (h2 r hr).2 s hs; omega⟩
      obtain ⟨H1, a1, a2, a3⟩ := Tryd.table H hNm hfl v rows hv hs (by omega)
      have hv1 : TabV H1.next H1 v rows := hv.old a2.2.1 a2.2.2
      simp only [Tryd.fn4, Tryd.fn4_r0, Tryd.fn4_r1, hlv, AmR, kp, pushA, exe, number, Arg.val, Env.at, lk, putd, ok1, okM, Option.getD_some, if_true, if_false, Bool.not_true, reduceCtorEq, Nat.reduceEqDiff, aun, List.map_nil]
      simp only [Tryd.fn4_r3, hsm, AmR, kp, pushA, exe, Arg.val, Env.at, lk, putd, ok1, okM, Option.getD_some, if_true, if_false, Bool.not_true, reduceCtorEq, Nat.reduceEqDiff, aun, List.map_cons, List.map_nil]
      by_cases hok : tableE rows = 0
      · have f1 : (tableE rows != 0) = false := by rw [hok]; rfl
        have hTS : tableS rows = tableT rows := by unfold tableS; rw [if_pos hok]
        have htl : (tableT rows).length ≤ 1048576 := by
          unfold tableE at hok
          split at hok
          · split at hok
            · assumption
            · cases hok
          · cases hok
        have htb : tabB rows = true := by
          unfold tableE at hok
          split at hok
          · assumption
          · cases hok
        rw [hTS] at a1
        have hh := tabB_len htb
        simp only [Tryd.fn4_r5, a1, AmR, kp, exe, Arg.val, Env.at, lk, putd, ok1, okM, Option.getD_some, if_true, if_false, List.getElem?_cons_zero, List.getElem?_cons_succ, reduceCtorEq, Nat.reduceEqDiff, List.map_cons, List.map_nil]
        simp only [Tryd.fn4_r6, hok, bne_self_eq_false, AmR, kp, pushA, exe, Arg.val, Env.at, lk, putd, ok1, okM, abin, Option.getD_some, if_true, if_false, reduceCtorEq, Nat.reduceEqDiff, bne_self_eq_false]
        simp only [Tryd.fn4_r8, AmR, kp, exe, Arg.val, Env.at, lk, putd, ok1, Option.getD_some, if_true, if_false, reduceCtorEq, Nat.reduceEqDiff, List.map_nil, afill, rep, List.reduceReplicate, List.flatten_nil]
        simp only [Tryd.fn4_r9, AmR, kp, exe, Arg.val, Env.at, lk, putd, ok1, Option.getD_some, if_true, if_false, reduceCtorEq, Nat.reduceEqDiff]
        simp only [Tryd.fn4_r10, AmR, kp, exe, Arg.val, Env.at, lk, putd, ok1, Option.getD_some, if_true, if_false, reduceCtorEq, Nat.reduceEqDiff]
        have ho : StV (wid (rows.headD []).length rows) H1.next (H1.push 3 true []) (.sl H1.next 0 1 0 (some 0)) 0 := ⟨by omega, by show H1.floor ≤ H1.next; have h1 := a2.1; have h2 := a2.2.1; omega, Nat.le_succ _, .inr ⟨H1.next, some 0, Nat.le_refl _, rfl, own_new H1 3 true [] (some 0) (by omega) rfl (.inl rfl) (by have h1 := a2.1; have h2 := a2.2.1; omega)⟩⟩
        cases hrows : rows with
        | nil =>
          have hvl := hv1.lenS
          rw [hrows] at hvl
          have c1 : ((0 : Int) < (([] : List (List (List UInt8))).length : Int)) = False := by simp
          have c2 : ((0 : Int) == ((tableT []).length : Int)) = true := rfl
          refine W_loopN rfl ?_
          simp only [Tryd.fn4_l3, Tryd.fn4_r11, hvl, c1, AmR, kp, pushA, exe, Arg.val, Env.at, lk, putd, ok1, okM, abin, Option.getD_some, if_true, if_false, reduceCtorEq, Nat.reduceEqDiff, decide_false, Option.map_some, ↓exe_lenl]
          simp only [Tryd.fn4_r43, c2, endK_ret, AmR, kp, exe, Arg.val, Env.at, lk, putd, ok1, okM, abin, Option.getD_some, if_true, if_false, reduceCtorEq, Nat.reduceEqDiff, resAll, resOf, Option.some.injEq, exists_eq_left']
        | cons r0 rest =>
          have hr0 : rows[0]? = some r0 := by rw [hrows]; rfl
          have hr0l : r0.length = (rows.headD []).length := by rw [hrows]; rfl
          have hr0s := (h2 r0 (List.mem_of_getElem? hr0)).1
          rw [← hrows]
          refine Tryd.alRows (tableT rows) htl v H1.next H1 rows hv1 H1.next (Nat.le_refl _) (wid (rows.headD []).length rows) (rows.headD []).length (by omega) (by omega) r0 hr0 hr0l (fun r hr => ⟨(hh r hr).1, (hh r hr).2.1, wid_fits (fun r hr => (hh r hr).2.1) r hr, (hh r hr).2.2⟩) _ _ _ rfl rows.length 0 0 _ _ (by omega) (Nat.zero_le _) rfl (by rw [if_pos rfl]; exact ho) (Kept.push _ _ (Nat.le_refl _) _ _ _) (a3.push _ _ _) fun H' a b => ?_
          simp only [Tryd.fn4_r43, beq_self_eq_true, endK_ret, AmR, kp, exe, Arg.val, Env.at, lk, putd, ok1, okM, abin, Option.getD_some, if_true, if_false, reduceCtorEq, Nat.reduceEqDiff, resAll, resOf, Option.some.injEq, exists_eq_left']
      · have f1 : (tableE rows = 0) = False := eq_false hok
        have hTS : tableS rows = [] := by unfold tableS; rw [if_neg hok]
        rw [hTS] at a1
        simp only [Tryd.fn4_r5, a1, AmR, kp, exe, Arg.val, Env.at, lk, putd, ok1, okM, Option.getD_some, if_true, if_false, List.getElem?_cons_zero, List.getElem?_cons_succ, reduceCtorEq, Nat.reduceEqDiff, List.map_cons, List.map_nil]
        simp only [Tryd.fn4_r6, f1, false_implies, not_false_eq_true, true_implies, true_and, AmR, Cd_bne, kp, pushA, exe, Arg.val, Env.at, lk, putd, ok1, okM, abin, Option.getD_some, if_true, if_false, reduceCtorEq, Nat.reduceEqDiff, true_and]
        simp only [Tryd.fn4_r7, beq_self_eq_true, endK_ret, AmR, kp, exe, Arg.val, Env.at, lk, putd, ok1, okM, abin, Option.getD_some, if_true, if_false, reduceCtorEq, Nat.reduceEqDiff, resAll, resOf, Option.some.injEq, exists_eq_left'])
  exact ⟨H', hc⟩

end Go.Am
