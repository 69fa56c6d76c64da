/-
The same rows; the law of rows. Conditions: those that each theorem names.
-/
import Derived.Test.YtolilamofgildaaDoorAmO
set_option linter.unusedSimpArgs false
set_option linter.unusedVariables false
namespace Go.Am

theorem Tryd.sameIn (n : Nat) (H : AH) (hNm : Names H) (v v' : AV) (rows : List (List (List UInt8))) (hv : TabV n H v rows) (hv' : TabV n H v' rows) (hil : rows.length ≤ 4000000) (i : Nat) (r : List (List UInt8)) (hr : rows[i]? = some r) (hrl : r.length ≤ 4000000) (K : AX → St → Prop) (ks : List Fr) (L : ACode) (hL : L = .loop (some [0, 1, 5, 6]) Tryd.fn19_l0) :
    ∀ (m k : Nat), m + k = r.length → (∀ a b, Nx Tryd.call K ks [(35, .bool false), (0, v), (1, v'), (5, .int .i64 i), (6, a), (35, b)] H) →
      W Tryd.call K (.block 2 :: ks) [(0, v), (1, v'), (5, .int .i64 i), (6, .int .i64 k)] H L := by
  have hnew := hNm.new
  have hN : ∀ nx fl j, (AH.mk H.blks nx fl).get j = H.get j := fun _ _ _ => rfl
  obtain ⟨q, o, c, b, u, e1, e2, e3, hu⟩ := hv.row hr
  obtain ⟨q', o', c', b', u', f1, f2, f3, hu'⟩ := hv'.row hr
  subst e1; subst f1
  have hil' : i < rows.length := (List.getElem?_eq_some_iff.1 hr).1
  have hi0 : (0 : Int) ≤ (i : Int) := by omega
  have hi1 : ((i : Int) < (rows.length : Int)) = True := eq_true (by omega)
  have hul := hu.lenS
  intro m
  induction m with
  | zero =>
    intro k hk hd
    refine W_loopN hL ?_
    have hk' : k = r.length := by omega
    subst hk'
    have hlt : ((r.length : Int) < (r.length : Int)) = False := eq_false (by omega)
    simp only [Tryd.fn19_l0, Tryd.fn19_r8, hi0, hi1, e2, e3, hul, Int.toNat_natCast, hlt, and_self, AmR, kp, pushA, exe, Arg.val, Env.at, lk, putd, ok1, okM, abin, Option.getD_some, if_true, if_false, reduceCtorEq, Nat.reduceEqDiff, decide_false, Option.map_some, ↓exe_lenl]
    exact hd _ _
  | succ m ih =>
    intro k hk hd
    refine W_loopN hL ?_
    have hs : r[k]? = some r[k] := List.getElem?_eq_getElem (by omega)
    obtain ⟨q2, o2, c2, b2, u1, u2, u3⟩ := hu.cell hs
    obtain ⟨q3, o3, c3, b3, w1, w2, w3⟩ := hu'.cell hs
    generalize r[k] = s at *
    have hk0 : (0 : Int) ≤ (k : Int) := by omega
    have hk1 : ((k : Int) < (r.length : Int)) = True := eq_true (by omega)
    have hw := succ_wrap (i := k) (by omega)
    simp only [Tryd.fn19_l0, Tryd.fn19_r8, hi0, hi1, e2, e3, hul, Int.toNat_natCast, hk1, and_self, AmR, kp, pushA, exe, Arg.val, Env.at, lk, putd, ok1, okM, abin, Option.getD_some, if_true, if_false, reduceCtorEq, Nat.reduceEqDiff, decide_true, Option.map_some, ↓exe_lenl]
    refine W_drawn' (by kernel_rfl) ?_
    rw [u1] at e3
    rw [w1] at f3
    simp only [Tryd.fn19_r9, Tryd.fn19_r9a, Tryd.fn19_r9b, hN, hi0, hi1, hk0, hk1, e2, e3, f2, f3, u2, u3, w2, w3, hnew, Int.toNat_natCast, and_self, AmR, Cd_nbeq, kp, pushA, exe, Arg.val, Env.at, lk, putd, ok1, okM, abin, Option.getD_some, if_true, if_false, reduceCtorEq, Nat.reduceEqDiff, Nat.reduceAdd, true_and, List.nil_append, visH, List.filter_nil, List.flatMap_nil, List.contains_cons, List.contains_nil, Bool.or_false]
    simp only [Tryd.fn19_r11, hw, AmR, kp, exe, Arg.val, Env.at, lk, putd, ok1, okM, abin, Option.getD_some, if_true, if_false, reduceCtorEq, Nat.reduceEqDiff]
    exact ⟨fun _ => ih (k + 1) (by omega) hd, fun h => absurd trivial h⟩

theorem Tryd.sameOut (n : Nat) (H : AH) (hNm : Names H) (v v' : AV) (rows : List (List (List UInt8))) (hv : TabV n H v rows) (hv' : TabV n H v' rows) (hil : rows.length ≤ 4000000) (hs : ∀ r ∈ rows, r.length ≤ 4000000) (K : AX → St → Prop) (ks : List Fr) (L : ACode) (hL : L = .loop (some [0, 1, 5]) Tryd.fn19_l1) :
    ∀ (m i : Nat), m + i = rows.length → (∀ a b, Nx Tryd.call K ks [(15, .bool false), (0, v), (1, v'), (5, a), (15, b)] H) →
      W Tryd.call K (.block 0 :: ks) [(0, v), (1, v'), (5, .int .i64 i)] H L := by
  have hnew := hNm.new
  have hN : ∀ nx fl j, (AH.mk H.blks nx fl).get j = H.get j := fun _ _ _ => rfl
  have hvl := hv.lenS
  intro m
  induction m with
  | zero =>
    intro i hi hd
    refine W_loopN hL ?_
    have hi' : i = rows.length := by omega
    subst hi'
    have hlt : ((rows.length : Int) < (rows.length : Int)) = False := eq_false (by omega)
    simp only [Tryd.fn19_l1, Tryd.fn19_r4, hvl, hlt, AmR, kp, pushA, exe, Arg.val, Env.at, lk, putd, ok1, okM, abin, Option.getD_some, if_true, if_false, reduceCtorEq, Nat.reduceEqDiff, decide_false, Option.map_some, ↓exe_lenl]
    exact hd _ _
  | succ m ih =>
    intro i hi hd
    refine W_loopN hL ?_
    have hr : rows[i]? = some rows[i] := List.getElem?_eq_getElem (by omega)
    have hrl := hs _ (List.mem_of_getElem? hr)
    have hin := Tryd.sameIn n H hNm v v' rows hv hv' hil i rows[i] hr hrl
    obtain ⟨q, o, c, b, u, e1, e2, e3, hu⟩ := hv.row hr
    obtain ⟨q', o', c', b', u', f1, f2, f3, hu'⟩ := hv'.row hr
    generalize rows[i] = r at *
    have hi0 : (0 : Int) ≤ (i : Int) := by omega
    have hi1 : ((i : Int) < (rows.length : Int)) = True := eq_true (by omega)
    have hul := hu.lenS
    have hul' := hu'.lenS
    have hw := succ_wrap (i := i) (by omega)
    subst e1; subst f1
    simp only [Tryd.fn19_l1, Tryd.fn19_r4, hvl, hi1, AmR, kp, pushA, exe, Arg.val, Env.at, lk, putd, ok1, okM, abin, Option.getD_some, if_true, if_false, reduceCtorEq, Nat.reduceEqDiff, decide_true, Option.map_some, ↓exe_lenl]
    refine W_drawn' (by kernel_rfl) ?_
    simp only [Tryd.fn19_r5, Tryd.fn19_r5a, hN, hi0, hi1, e2, e3, f2, f3, hul, hul', hnew, Int.toNat_natCast, and_self, bne_self_eq_false, AmR, kp, pushA, exe, Arg.val, Env.at, lk, putd, ok1, okM, abin, Option.getD_some, if_true, if_false, reduceCtorEq, Nat.reduceEqDiff, Nat.reduceAdd, true_and, List.nil_append, visH, List.filter_nil, List.flatMap_nil, List.contains_cons, List.contains_nil, Bool.or_false, Option.map_some, bne_self_eq_false, ↓exe_lenl]
    simp only [Tryd.fn19_r7, AmR, kp, exe, Arg.val, Env.at, lk, putd, ok1, Option.getD_some, if_true, if_false, reduceCtorEq, Nat.reduceEqDiff]
    refine hin K _ _ rfl r.length 0 (by omega) fun a b' => ?_
    simp only [Tryd.fn19_r12, hw, AmR, kp, exe, Arg.val, Env.at, lk, putd, ok1, okM, abin, Option.getD_some, if_true, if_false, reduceCtorEq, Nat.reduceEqDiff]
    exact ih (i + 1) (by omega) hd

theorem Tryd.sameRows (n : Nat) (H : AH) (hNm : Names H) (v v' : AV) (rows : List (List (List UInt8))) (hv : TabV n H v rows) (hv' : TabV n H v' rows) (hil : rows.length ≤ 4000000) (hs : ∀ r ∈ rows, r.length ≤ 4000000) :
    Tryd.call 19 [v, v'] H = some (.ok (.bool true), H) := by
  have hvl := hv.lenS
  have hvl' := hv'.lenS
  refine ecall_W 6 [] _ _ (out := [.bool true]) rfl rfl rfl ?_
  show W Tryd.call _ _ _ _ _
  simp only [Tryd.fn19, Tryd.fn19_r0, AmR, kp, exe, number, Arg.val, Env.at, lk, putd, ok1, Option.getD_some, if_true, if_false, reduceCtorEq, Nat.reduceEqDiff, Nat.reduceAdd]
  simp only [Tryd.fn19_r1, hvl, hvl', bne_self_eq_false, AmR, kp, pushA, exe, Arg.val, Env.at, lk, putd, ok1, okM, abin, Option.getD_some, if_true, if_false, reduceCtorEq, Nat.reduceEqDiff, Option.map_some, bne_self_eq_false, ↓exe_lenl]
  simp only [Tryd.fn19_r3, AmR, kp, exe, Arg.val, Env.at, lk, putd, ok1, Option.getD_some, if_true, if_false, reduceCtorEq, Nat.reduceEqDiff]
  refine Tryd.sameOut n H hNm v v' rows hv hv' hil hs _ _ _ rfl rows.length 0 (by omega) fun a b => ?_
  simp only [Tryd.fn19_r13, exactK_ret, AmR, kp, exe, Arg.val, Env.at, lk, putd, ok1, Option.getD_some, if_true, if_false, reduceCtorEq, Nat.reduceEqDiff, resAll, resOf, and_true]

theorem Tryd.lawRows (H : AH) (hNm : Names H) (hfl : H.floor ≤ H.next) (s : List UInt8) : ∃ H', Tryd.call 7 [.str s] H = some (.ok (.bool true), H') := by
  have hlv := Tryd.lives H
  obtain ⟨vs, H', rfl, hc⟩ := ecall_E 6 [] (lk Tryd.ext) (lk Tryd.tab) (f := 7) (fn := Tryd.fn7) (args := [.str s]) (H := H) (R := fun vs H' => vs = [.bool true]) rfl rfl rfl (by
    show W Tryd.call _ _ _ _ _
    by_cases hb : (s.length : Int) > 20000
    · have e1 : ((s.length : Int) > 20000) = True := eq_true hb
      simp only [Tryd.fn7, Tryd.fn7_r0, Tryd.fn7_r1, hlv, AmR, kp, pushA, exe, number, Arg.val, Env.at, lk, putd, ok1, okM, Option.getD_some, if_true, if_false, Bool.not_true, reduceCtorEq, Nat.reduceEqDiff, aun, List.map_nil]
      simp only [Tryd.fn7_r3, e1, AmR, kp, pushA, exe, Arg.val, Env.at, lk, putd, ok1, okM, abin, Option.getD_some, if_true, if_false, reduceCtorEq, Nat.reduceEqDiff, decide_true]
      simp only [Tryd.fn7_r4, endK_ret, AmR, kp, exe, Arg.val, Env.at, lk, putd, ok1, Option.getD_some, if_true, if_false, reduceCtorEq, Nat.reduceEqDiff, resAll, resOf, Option.some.injEq, exists_eq_left']
    · have e1 : ((s.length : Int) > 20000) = False := eq_false hb
      obtain ⟨v, H1, a1, a2, a3, a4⟩ := Tryd.rowsOf s (by omega) H hNm hfl
      obtain ⟨v', H2, b1, b2, b3, b4⟩ := Tryd.refRowsOf s (by omega) H1 a4 (by have h1 := a3.1; have h2 := a3.2.1; omega)
      have a2' : TabV H2.next H2 v (rowsS s) := a2.old b3.2.1 b3.2.2
      obtain ⟨r1, r2⟩ := rows_bound (s := s) (by omega)
      have hr : (rowsS s).length ≤ 4000000 ∧ ∀ r ∈ rowsS s, r.length ≤ 4000000 := by
        unfold rowsS
        split
        · exact ⟨by omega, fun r hr => (r2 r hr).1⟩
        · exact ⟨by simp, fun r hr => by simp at hr⟩
      have c1 := Tryd.sameRows H2.next H2 b4 v v' (rowsS s) a2' b2 hr.1 hr.2
      simp only [Tryd.fn7, Tryd.fn7_r0, Tryd.fn7_r1, hlv, AmR, kp, pushA, exe, number, Arg.val, Env.at, lk, putd, ok1, okM, Option.getD_some, if_true, if_false, Bool.not_true, reduceCtorEq, Nat.reduceEqDiff, aun, List.map_nil]
      simp only [Tryd.fn7_r3, e1, AmR, kp, pushA, exe, Arg.val, Env.at, lk, putd, ok1, okM, abin, Option.getD_some, if_true, if_false, reduceCtorEq, Nat.reduceEqDiff, decide_false]
      simp only [Tryd.fn7_r5, a1, AmR, kp, exe, Arg.val, Env.at, lk, putd, ok1, okM, Option.getD_some, if_true, if_false, List.getElem?_cons_zero, List.getElem?_cons_succ, reduceCtorEq, Nat.reduceEqDiff, List.map_cons, List.map_nil]
      simp only [Tryd.fn7_r6, b1, AmR, kp, exe, Arg.val, Env.at, lk, putd, ok1, okM, Option.getD_some, if_true, if_false, List.getElem?_cons_zero, List.getElem?_cons_succ, reduceCtorEq, Nat.reduceEqDiff, List.map_cons, List.map_nil]
      simp only [Tryd.fn7_r7, c1, beq_self_eq_true, endK_ret, AmR, kp, exe, Arg.val, Env.at, lk, putd, ok1, okM, abin, Option.getD_some, if_true, if_false, Nat.reduceEqDiff, resAll, resOf, Option.some.injEq, List.map_cons, List.map_nil, exists_eq_left'])
  exact ⟨H', hc⟩

end Go.Am
