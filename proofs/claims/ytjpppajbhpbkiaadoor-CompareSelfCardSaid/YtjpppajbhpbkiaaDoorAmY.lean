/-
CompareSelf on the machine. Conditions: none.
-/
import Derived.Test.YtjpppajbhpbkiaaDoorAmX
set_option linter.unusedSimpArgs false
set_option linter.unusedVariables false
namespace Go.Am

theorem same_bad {a b : List Ev} {tol : Int} (h : okL a = false) : sameB a b tol = false := by
  unfold sameB diffR
  rw [if_pos (.inr (.inl h))]
  rfl

theorem same_good {a b : List Ev} {tol : Int} (h : diffR a b tol = ([], 0)) : sameB a b tol = true := by
  unfold sameB
  rw [h]
  rfl

theorem shift_ok {l : List Ev} {n : Int} (h : shiftE l n = 0) (ho : okL l = true) : shiftL l n = l.map (sh n) ∧ okL (l.map (sh n)) = true := by
  unfold shiftE at h
  unfold shiftL
  rw [if_pos ho] at h ⊢
  split at h
  · cases h
  · rename_i h1
    rw [if_neg h1]
    split at h
    · rename_i h2
      exact ⟨if_pos h2, h2⟩
    · cases h

theorem Tryd.selfLoop (a : List Ev) (by' tol : Int) (hla : a.length ≤ 60) (va : AV) (H : AH) (ha : EvS H va a) (K : AX → St → Prop) (ks : List Fr) (L : ACode) (hL : L = .loop (some [0, 1, 2, 7]) Tryd.fn6_l0)
    (hbad : okL a = false → Tryd.call 13 [va, va, .int .i64 tol] H = some (.ok (.bool false), H))
    (hk : okL a = true → ∀ w, Nx Tryd.call K ks [(23, .bool false), (0, va), (1, .int .i64 by'), (2, .int .i64 tol), (7, .int .i64 a.length), (23, w)] H) (hr : okL a = false → ∀ e, e.at 6 = .bool true → Rt Tryd.call K ks e H) :
    ∀ (n i : Nat), n + i = a.length → (okL (a.drop i) = okL a) →
    W Tryd.call K (.block 0 :: ks) [(0, va), (1, .int .i64 by'), (2, .int .i64 tol), (7, .int .i64 i)] H L := by
  have la := SliceV.lenS ha
  have hex := Tryd.awake
  intro n
  induction n with
  | zero =>
    intro i hi ho
    refine W_loopN hL ?_
    have hi' : i = a.length := by omega
    subst hi'
    rw [List.drop_length] at ho
    simp only [Tryd.fn6_l0, Tryd.fn6_r4, la, AmR, kp, pushA, exe, Arg.val, Env.at, lk, putd, ok1, okM, abin, Option.getD_some, if_true, if_false, reduceCtorEq, Nat.reduceEqDiff, Option.map_some, ↓exe_lenl]
    exact ⟨fun h => absurd h (by omega), fun _ => hk ho.symm _⟩
  | succ n ih =>
    intro i hi ho
    refine W_loopN hL ?_
    obtain ⟨x, hx⟩ : ∃ x, a[i]? = some x := ⟨_, List.getElem?_eq_getElem (by omega)⟩
    have h0 : (0 : Int) ≤ (i : Int) := by omega
    have h1 : ((i : Int) < (a.length : Int)) = True := eq_true (by omega)
    have hw : IntKind.i64.wrap ((i : Int) + 1) = ((i + 1 : Nat) : Int) := by rw [IntWalk.i64_in _ (by omega)]; omega
    have hd := okL_drop hx
    have hv : Tryd.call 17 [.agg x.cells] H = some (.ok (.bool x.ok), H) := Tryd.valid x H
    rcases ha.cases with ⟨rfl, h, _⟩ | ⟨rfl, h, _⟩ | ⟨q, o, c, b, rfl, hb, hlb, hcs⟩
    · omega
    · omega
    · have cx : H.cellsAt q (o + i * 7) 7 = some x.cells := cellsAt_rowO Ev.cells_len hb hlb hcs hx
      simp only [Tryd.fn6_l0, Tryd.fn6_r4, la, h1, AmR, kp, pushA, exe, Arg.val, Env.at, lk, putd, ok1, okM, abin, Option.getD_some, if_true, if_false, reduceCtorEq, Nat.reduceEqDiff, decide_true, Option.map_some, ↓exe_lenl]
      simp only [Tryd.fn6_r5, h0, h1, Int.toNat_natCast, and_self, cx, hv, AmR, kp, exe, Arg.val, Env.at, lk, putd, ok1, okM, Option.getD_some, if_true, if_false, reduceCtorEq, Nat.reduceEqDiff, aun, List.map_cons, List.map_nil, Option.map_some]
      cases hok : x.ok with
      | false =>
        rw [hok, Bool.false_and, ho] at hd
        have hs := hbad hd
        simp only [Tryd.fn6_r6, hs, hex, AmR, kp, pushA, exe, Arg.val, Env.at, lk, putd, ok1, okM, Option.getD_some, if_true, if_false, Bool.not_false, reduceCtorEq, Nat.reduceEqDiff, aun, List.map_cons, List.map_nil]
        exact hr hd _ rfl
      | true =>
        rw [hok, Bool.true_and] at hd
        simp only [Tryd.fn6_r7, hw, AmR, kp, pushA, exe, Arg.val, Env.at, lk, putd, ok1, okM, abin, Option.getD_some, if_true, if_false, Bool.not_true, reduceCtorEq, Nat.reduceEqDiff]
        exact ih (i + 1) (by omega) (by rw [← hd]; exact ho)

theorem Tryd.lawSelf (a : List Ev) (va : AV) (by' tol : Int) (H : AH) (ha : EvS H va a) : Tryd.call 6 [va, .int .i64 by', .int .i64 tol] H = some (.ok (.bool true), H) := by
  obtain ⟨w1, bs, kq, hvw, s1, n1, hN⟩ := evs_view ha (rest := [.int .i64 by', .int .i64 tol]) (us := [.int .i64 by', .int .i64 tol]) 4 fun k => views_flat rfl (views_flat rfl (views_nil H k))
  refine ecall_flat 4 [] _ _ (out := [.bool true]) rfl rfl rfl hvw rfl ?_
  show W Tryd.call _ _ _ _ _
  generalize hH : (⟨bs ++ [], kq, kq⟩ : AH) = H0 at s1 hN ⊢
  have hn : H0.next = kq := by rw [← hH]
  subst hn
  have hex := Tryd.awake
  have l1 := SliceV.lenS s1
  by_cases h60 : a.length ≤ 60
  · have d1 : decide ((a.length : Int) > 60) = false := decide_eq_false (by omega)
    by_cases ht : tol < 0
    · have d2 : decide (tol < 0) = true := decide_eq_true ht
      simp only [Tryd.fn6, Tryd.fn6_r0, Tryd.fn6_r1, Tryd.fn6_r2, l1, d1, d2, hex, AmR, kp, pushA, exe, number, Arg.val, Env.at, lk, putd, ok1, okM, abin, Option.getD_some, if_true, if_false, reduceCtorEq, Nat.reduceEqDiff, Nat.reduceAdd, Bool.false_eq_true, resAll, resOf, List.map_nil, Option.map_some, ↓exe_lenl]
    · have d2 : decide (tol < 0) = false := decide_eq_false ht
      have hsame := Tryd.same a a tol (by omega) (by omega) w1 w1 H0 s1 s1
      simp only [Tryd.fn6, Tryd.fn6_r0, Tryd.fn6_r1, l1, d1, d2, AmR, kp, pushA, exe, number, Arg.val, Env.at, lk, putd, ok1, okM, abin, Option.getD_some, if_true, if_false, reduceCtorEq, Nat.reduceEqDiff, Nat.reduceAdd, Bool.false_eq_true, Option.map_some, ↓exe_lenl]
      simp only [Tryd.fn6_r3, AmR, kp, exe, Arg.val, Env.at, lk, putd, ok1, Option.getD_some, if_true, if_false, reduceCtorEq, Nat.reduceEqDiff]
      refine Tryd.selfLoop a by' tol h60 w1 H0 s1 _ _ _ rfl (fun h => by rw [same_bad h] at hsame; exact hsame) ?_ ?_ a.length 0 (by omega) (by rw [List.drop_zero])
      · intro hok w
        have hds := diff_same a tol hok (by omega)
        obtain ⟨v, H1, cs, ns⟩ := Tryd.evShift a w1 by' H0 (by omega) s1
        have g1 := NewV.grow ns
        have s1a := SliceV.grow s1 g1 n1
        have n1a : ∀ i o z n c, w1 = .sl i o z n c → i < H1.next := fun i o z n c e => Nat.lt_of_lt_of_le (n1 i o z n c e) g1.2.1
        obtain ⟨x, H2, cd, nd⟩ := Tryd.diff a a tol (by omega) (by omega) w1 w1 H1 s1a s1a
        rw [hds] at cd nd
        have lx := SliceV.lenS nd.slice
        have g2 := nd.grow
        have s1b := SliceV.grow s1a g2 n1a
        have hsame2 := Tryd.same a a tol (by omega) (by omega) w1 w1 H2 s1b s1b
        rw [same_good hds] at hsame2
        have sv : EvS H2 v (shiftL a by') := SliceV.grow (NewV.slice ns) g2 (NewV.lt ns)
        simp only [Tryd.fn6_r8, cs, AmR, kp, exe, Arg.val, Env.at, lk, putd, ok1, okM, Option.getD_some, if_true, if_false, List.getElem?_cons_zero, List.getElem?_cons_succ, reduceCtorEq, Nat.reduceEqDiff, List.map_cons, List.map_nil]
        simp only [Tryd.fn6_r9, cd, AmR, kp, exe, Arg.val, Env.at, lk, putd, ok1, okM, Option.getD_some, if_true, if_false, List.getElem?_cons_zero, List.getElem?_cons_succ, reduceCtorEq, Nat.reduceEqDiff, List.map_cons, List.map_nil]
        simp only [Tryd.fn6_r10, Tryd.fn6_r11, lx, hsame2, List.length_nil, Int.cast_ofNat_Int, bne_self_eq_false, AmR, kp, pushA, exe, Arg.val, Env.at, lk, putd, ok1, okM, abin, Option.getD_some, if_true, if_false, Bool.not_true, reduceCtorEq, Nat.reduceEqDiff, Bool.false_eq_true, aun, List.map_cons, List.map_nil, List.length_nil, Option.map_some, bne_self_eq_false, Int.cast_ofNat_Int, ↓exe_lenl]
        simp only [Tryd.fn6_r13, AmR, Cd_bne, kp, pushA, exe, Arg.val, Env.at, lk, putd, ok1, okM, abin, Option.getD_some, if_true, if_false, reduceCtorEq, Nat.reduceEqDiff]
        refine ⟨fun he => ?_, fun he => ?_⟩
        · obtain ⟨e1, e2⟩ := shift_ok he hok
          obtain ⟨f1, f2⟩ := diff_shift a by' tol hok e2 (by omega)
          rw [e1] at sv
          have hml : (a.map (sh by')).length ≤ 512 := by rw [List.length_map]; omega
          have c1 := Tryd.same a (a.map (sh by')) tol (by omega) hml w1 v H2 s1b sv
          have c2 := Tryd.same (a.map (sh by')) a tol hml (by omega) v w1 H2 sv s1b
          rw [same_good f1] at c1
          rw [same_good f2] at c2
          simp only [Tryd.fn6_r15, Tryd.fn6_r16, c1, c2, hex, AmR, kp, exe, Arg.val, Env.at, lk, putd, ok1, Option.getD_some, if_true, if_false, reduceCtorEq, Nat.reduceEqDiff, resAll, resOf, List.map_cons, List.map_nil]
        · simp only [Tryd.fn6_r14, hex, AmR, kp, exe, Arg.val, Env.at, lk, putd, ok1, Option.getD_some, if_true, if_false, reduceCtorEq, Nat.reduceEqDiff, resAll, resOf, List.map_nil]
      · intro hok e he
        simp only [Rt_code, Rt_nil, flatK_ret, resAll, resOf, he]
  · have d1 : decide ((a.length : Int) > 60) = true := decide_eq_true (by omega)
    simp only [Tryd.fn6, Tryd.fn6_r0, Tryd.fn6_r1, Tryd.fn6_r2, l1, d1, hex, AmR, kp, pushA, exe, number, Arg.val, Env.at, lk, putd, ok1, okM, abin, Option.getD_some, if_true, if_false, reduceCtorEq, Nat.reduceEqDiff, Nat.reduceAdd, resAll, resOf, List.map_nil, Option.map_some, ↓exe_lenl]

end Go.Am
