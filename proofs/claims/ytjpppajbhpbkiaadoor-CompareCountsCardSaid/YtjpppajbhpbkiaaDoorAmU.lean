/-
CompareDiffs on the machine. Conditions: none.
-/
import Derived.Test.YtjpppajbhpbkiaaDoorAmT
set_option linter.unusedSimpArgs false
set_option linter.unusedVariables false
namespace Go.Am

def sameB (a b : List Ev) (tol : Int) : Bool := (diffR a b tol).2 == 0 && (((diffR a b tol).1.length : Nat) : Int) == 0

theorem Tryd.same (a b : List Ev) (tol : Int) (hla : a.length ≤ 512) (hlb : b.length ≤ 512) (va vb : AV) (H : AH) (ha : EvS H va a) (hb : EvS H vb b) : Tryd.call 13 [va, vb, .int .i64 tol] H = some (.ok (.bool (sameB a b tol)), H) := by
  obtain ⟨w1, w2, bs, kq, hvw, s1, s2, hN, _, n1, n2⟩ := views_two ha hb (evs_flat a) (evs_flat b) 4 (rest := [.int .i64 tol]) (us := [.int .i64 tol]) fun k => views_flat rfl (views_nil H k)
  refine ecall_flat 4 [] _ _ (out := [.bool (sameB a b tol)]) rfl rfl rfl hvw rfl ?_
  show W Tryd.call _ _ _ _ _
  generalize hH : (⟨bs ++ [], kq, kq⟩ : AH) = H0 at s1 s2 hN ⊢
  obtain ⟨v', H', hc, hn⟩ := Tryd.diff a b tol hla hlb w1 w2 H0 s1 s2
  have lv := SliceV.lenS hn.slice
  simp only [Tryd.fn13, Tryd.fn13_r0, AmR, kp, exe, number, Arg.val, Env.at, lk, putd, ok1, Option.getD_some, if_true, if_false, reduceCtorEq, Nat.reduceEqDiff, Nat.reduceAdd]
  simp only [Tryd.fn13_r1, hc, AmR, kp, exe, Arg.val, Env.at, lk, putd, ok1, okM, Option.getD_some, if_true, if_false, List.getElem?_cons_zero, List.getElem?_cons_succ, reduceCtorEq, Nat.reduceEqDiff, List.map_cons, List.map_nil]
  unfold sameB
  generalize diffR a b tol = r at *
  by_cases h0 : r.2 = 0
  · have b0 : (r.2 == 0) = true := by rw [h0]; rfl
    simp only [Tryd.fn13_r2, b0, lv, Bool.true_and, AmR, kp, exe, Arg.val, Env.at, lk, putd, ok1, okM, abin, Option.getD_some, if_true, if_false, Nat.reduceEqDiff, resAll, resOf, Option.map_some, ↓exe_lenl]
  · have b0 : (r.2 == 0) = false := beq_false_of_ne h0
    simp only [Tryd.fn13_r2, b0, Bool.false_and, AmR, kp, exe, Arg.val, Env.at, lk, putd, ok1, okM, abin, Option.getD_some, if_true, if_false, Nat.reduceEqDiff, Bool.false_eq_true, resAll, resOf]

theorem Tryd.sameRef (a b : List Ev) (tol : Int) (hla : a.length ≤ 512) (hlb : b.length ≤ 512) (va vb : AV) (H : AH) (ha : EvS H va a) (hb : EvS H vb b) : Tryd.call 14 [va, vb, .int .i64 tol] H = some (.ok (.bool (sameB a b tol)), H) := by
  obtain ⟨w1, w2, bs, kq, hvw, s1, s2, hN, _, n1, n2⟩ := views_two ha hb (evs_flat a) (evs_flat b) 4 (rest := [.int .i64 tol]) (us := [.int .i64 tol]) fun k => views_flat rfl (views_nil H k)
  refine ecall_flat 4 [] _ _ (out := [.bool (sameB a b tol)]) rfl rfl rfl hvw rfl ?_
  show W Tryd.call _ _ _ _ _
  generalize hH : (⟨bs ++ [], kq, kq⟩ : AH) = H0 at s1 s2 hN ⊢
  obtain ⟨v', H', hc, hn⟩ := Tryd.diffRef a b tol hla hlb w1 w2 H0 s1 s2
  have lv := SliceV.lenS hn.slice
  simp only [Tryd.fn14, Tryd.fn14_r0, AmR, kp, exe, number, Arg.val, Env.at, lk, putd, ok1, Option.getD_some, if_true, if_false, reduceCtorEq, Nat.reduceEqDiff, Nat.reduceAdd]
  simp only [Tryd.fn14_r1, hc, AmR, kp, exe, Arg.val, Env.at, lk, putd, ok1, okM, Option.getD_some, if_true, if_false, List.getElem?_cons_zero, List.getElem?_cons_succ, reduceCtorEq, Nat.reduceEqDiff, List.map_cons, List.map_nil]
  unfold sameB
  generalize diffR a b tol = r at *
  by_cases h0 : r.2 = 0
  · have b0 : (r.2 == 0) = true := by rw [h0]; rfl
    simp only [Tryd.fn14_r2, b0, lv, Bool.true_and, AmR, kp, exe, Arg.val, Env.at, lk, putd, ok1, okM, abin, Option.getD_some, if_true, if_false, Nat.reduceEqDiff, resAll, resOf, Option.map_some, ↓exe_lenl]
  · have b0 : (r.2 == 0) = false := beq_false_of_ne h0
    simp only [Tryd.fn14_r2, b0, Bool.false_and, AmR, kp, exe, Arg.val, Env.at, lk, putd, ok1, okM, abin, Option.getD_some, if_true, if_false, Nat.reduceEqDiff, Bool.false_eq_true, resAll, resOf]

theorem diffR_len {a b : List Ev} (ha : a.length ≤ 512) (hb : b.length ≤ 512) (tol : Int) : (diffR a b tol).1.length ≤ 1024 := by
  unfold diffR
  split
  · simp
  · have h1 := diff_len a b (shiftV a b (matchesL a b)) tol (matchesL a b)
    have h2 := matches_len a b
    show (diffL a b _ tol _).length ≤ 1024
    omega

theorem Tryd.lawDiffs (a : List Ev) (va : AV) (b : List Ev) (vb : AV) (tol : Int) (H : AH) (ha : EvS H va a) (hb : EvS H vb b) : Tryd.call 4 [va, vb, .int .i64 tol] H = some (.ok (.bool true), H) := by
  obtain ⟨w1, w2, bs, kq, hvw, s1, s2, hN, _, n1, n2⟩ := views_two ha hb (evs_flat a) (evs_flat b) 4 (rest := [.int .i64 tol]) (us := [.int .i64 tol]) fun k => views_flat rfl (views_nil H k)
  refine ecall_flat 4 [] _ _ (out := [.bool true]) rfl rfl rfl hvw rfl ?_
  show W Tryd.call _ _ _ _ _
  generalize hH : (⟨bs ++ [], kq, kq⟩ : AH) = H0 at s1 s2 hN ⊢
  have hn : H0.next = kq := by rw [← hH]
  subst hn
  have hex := Tryd.awake
  have l1 := SliceV.lenS s1
  have l2 := SliceV.lenS s2
  by_cases h60 : a.length ≤ 60 ∧ b.length ≤ 60
  · have d1 : decide ((a.length : Int) > 60) = false := decide_eq_false (by omega)
    have d2 : decide ((b.length : Int) > 60) = false := decide_eq_false (by omega)
    obtain ⟨x, Hx, cx, nx⟩ := Tryd.diff a b tol (by omega) (by omega) w1 w2 H0 s1 s2
    have s1x := SliceV.grow s1 nx.grow n1
    have s2x := SliceV.grow s2 nx.grow n2
    have n1x : ∀ i o z n c, w1 = .sl i o z n c → i < Hx.next := fun i o z n c e => Nat.lt_of_lt_of_le (n1 i o z n c e) nx.grow.2.1
    have n2x : ∀ i o z n c, w2 = .sl i o z n c → i < Hx.next := fun i o z n c e => Nat.lt_of_lt_of_le (n2 i o z n c e) nx.grow.2.1
    obtain ⟨y, Hy, cy, ny⟩ := Tryd.diffRef a b tol (by omega) (by omega) w1 w2 Hx s1x s2x
    have s1y := SliceV.grow s1x ny.grow n1x
    have s2y := SliceV.grow s2x ny.grow n2x
    have sx : ChS Hy x (diffR a b tol).1 := SliceV.grow nx.slice ny.grow nx.lt
    have sy : ChS Hy y (diffR a b tol).1 := ny.slice
    have hlen := diffR_len (a := a) (b := b) (by omega) (by omega) tol
    have ceq := Tryd.equal (diffR a b tol).1 x y Hy (by omega) sx sy
    have cs1 := Tryd.same a b tol (by omega) (by omega) w1 w2 Hy s1y s2y
    have cs2 := Tryd.sameRef a b tol (by omega) (by omega) w1 w2 Hy s1y s2y
    simp only [Tryd.fn4, Tryd.fn4_r0, Tryd.fn4_r1, l1, l2, d1, d2, AmR, kp, pushA, exe, number, Arg.val, Env.at, lk, putd, ok1, okM, abin, Option.getD_some, if_true, if_false, reduceCtorEq, Nat.reduceEqDiff, Nat.reduceAdd, Bool.false_eq_true, Option.map_some, ↓exe_lenl]
    simp only [Tryd.fn4_r3, cx, AmR, kp, exe, Arg.val, Env.at, lk, putd, ok1, okM, Option.getD_some, if_true, if_false, List.getElem?_cons_zero, List.getElem?_cons_succ, reduceCtorEq, Nat.reduceEqDiff, List.map_cons, List.map_nil]
    simp only [Tryd.fn4_r4, cy, AmR, kp, exe, Arg.val, Env.at, lk, putd, ok1, okM, Option.getD_some, if_true, if_false, List.getElem?_cons_zero, List.getElem?_cons_succ, reduceCtorEq, Nat.reduceEqDiff, List.map_cons, List.map_nil]
    simp only [Tryd.fn4_r5, ceq, beq_self_eq_true, AmR, kp, exe, Arg.val, Env.at, lk, putd, ok1, okM, abin, Option.getD_some, if_true, if_false, reduceCtorEq, Nat.reduceEqDiff, List.map_cons, List.map_nil]
    simp only [Tryd.fn4_r6, cs1, cs2, beq_self_eq_true, AmR, kp, exe, Arg.val, Env.at, lk, putd, ok1, okM, Option.getD_some, if_true, if_false, Bool.not_false, reduceCtorEq, Nat.reduceEqDiff, List.map_cons, List.map_nil, Option.map_some, aeqv, aeq, Bool.true_bne]
    simp only [Tryd.fn4_r7, hex, AmR, kp, exe, Arg.val, Env.at, lk, putd, ok1, Option.getD_some, if_true, if_false, Nat.reduceEqDiff, resAll, resOf, List.map_nil]
  · by_cases ha60 : a.length ≤ 60
    · have d1 : decide ((a.length : Int) > 60) = false := decide_eq_false (by omega)
      have d2 : decide ((b.length : Int) > 60) = true := decide_eq_true (by omega)
      simp only [Tryd.fn4, Tryd.fn4_r0, Tryd.fn4_r1, Tryd.fn4_r2, l1, l2, d1, d2, hex, AmR, kp, pushA, exe, number, Arg.val, Env.at, lk, putd, ok1, okM, abin, Option.getD_some, if_true, if_false, reduceCtorEq, Nat.reduceEqDiff, Nat.reduceAdd, Bool.false_eq_true, resAll, resOf, List.map_nil, Option.map_some, ↓exe_lenl]
    · have d1 : decide ((a.length : Int) > 60) = true := decide_eq_true (by omega)
      simp only [Tryd.fn4, Tryd.fn4_r0, Tryd.fn4_r1, Tryd.fn4_r2, l1, d1, hex, AmR, kp, pushA, exe, number, Arg.val, Env.at, lk, putd, ok1, okM, abin, Option.getD_some, if_true, if_false, reduceCtorEq, Nat.reduceEqDiff, Nat.reduceAdd, resAll, resOf, List.map_nil, Option.map_some, ↓exe_lenl]

end Go.Am
