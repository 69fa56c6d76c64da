/-
The costs of the specification. Conditions: the lists are short.
-/
import Derived.Test.YtjpppajbhpbkiaaDoorAmI
set_option linter.unusedSimpArgs false
set_option linter.unusedVariables false
namespace Go.Am

theorem Tryd.costsIn (A B : List Str) (hA : A.length ≤ 512) (hB : B.length ≤ 512) (va vb : AV) (K : AX → St → Prop) (ks : List Fr) (L : ACode) (hL : L = .loop (some [0, 1, 5, 6, 7, 8]) Tryd.fn42_l0) (H0 : AH) (hva : StrS H0 va A) (hvb : StrS H0 vb B)
    (na : ∀ i o z n c, va = .sl i o z n c → i < H0.next) (nb : ∀ i o z n c, vb = .sl i o z n c → i < H0.next) (o r i : Nat) (hi : i ≤ A.length)
    (hk : ∀ H u w, In false H0 H o r A B i 0 → Nx Tryd.call K ks [(26, .bool false), (0, va), (1, vb), (5, .sl o 0 1 (A.length + 1) (some (A.length + 1))), (6, .int .i64 i), (7, .sl r 0 1 (B.length + 1) (some (B.length + 1))), (8, u), (26, w)] H) :
    ∀ (n : Nat) (k : Int) (H : AH), k = (n : Int) - 1 → n ≤ B.length + 1 → In false H0 H o r A B i n →
    W Tryd.call K (.block 2 :: ks) [(0, va), (1, vb), (5, .sl o 0 1 (A.length + 1) (some (A.length + 1))), (6, .int .i64 i), (7, .sl r 0 1 (B.length + 1) (some (B.length + 1))), (8, .int .i64 k)] H L := by
  intro n
  induction n with
  | zero =>
    intro k H hkn hn hin
    refine W_loopN hL ?_
    simp only [Tryd.fn42_l0, Tryd.fn42_r6, AmR, kp, pushA, exe, Arg.val, Env.at, lk, putd, ok1, okM, abin, Option.getD_some, if_true, if_false, reduceCtorEq, Nat.reduceEqDiff]
    exact ⟨fun h => absurd h (by omega), fun _ => hk _ _ _ hin⟩
  | succ n ih =>
    intro k H hkn hn hin
    obtain rfl : k = (n : Int) := by omega
    refine W_loopN hL ?_
    have h0 : (0 : Int) ≤ (n : Int) := by omega
    have hi0 : (0 : Int) ≤ (i : Int) := by omega
    have d1 : decide ((n : Int) ≥ 0) = true := decide_eq_true h0
    have hg : Grow H0 H := ⟨hin.floor, by have h1 := hin.lowO; have h2 := hin.nextO; omega, hin.old⟩
    have sa : StrS H va A := SliceV.grow hva hg na
    have sb : StrS H vb B := SliceV.grow hvb hg nb
    have la := SliceV.lenS sa
    have lb := SliceV.lenS sb
    obtain ⟨H', st, hin'⟩ := hin.set (by omega)
    have hw : IntKind.i64.wrap ((n : Int) - 1) = (n : Int) - 1 := IntWalk.i64_in _ (by omega)
    have next := ih _ H' rfl (by omega) hin'
    have ln : ((n : Int) < ((B.length + 1 : Nat) : Int)) = True := eq_true (by omega)
    have hcb := cost_bound A B i n
    simp only [Tryd.fn42_l0, Tryd.fn42_r6, d1, AmR, kp, pushA, exe, Arg.val, Env.at, lk, putd, ok1, okM, abin, Option.getD_some, if_true, if_false, reduceCtorEq, Nat.reduceEqDiff]
    by_cases e1 : i = A.length
    · have b1 : ((i : Int) == (A.length : Int)) = true := by rw [e1, beq_self_eq_true]
      have hc : costC A B i n = .int .i64 ((B.length - n : Nat) : Int) := by unfold costC; rw [e1, cost_end_left]
      have w1 : IntKind.i64.wrap ((B.length : Int) - (n : Int)) = ((B.length - n : Nat) : Int) := by rw [IntWalk.i64_in _ (by omega)]; omega
      rw [hc] at st
      simp only [Tryd.fn42_r7, la, b1, AmR, kp, pushA, exe, Arg.val, Env.at, lk, putd, ok1, okM, abin, Option.getD_some, if_true, if_false, reduceCtorEq, Nat.reduceEqDiff, Option.map_some, ↓exe_lenl]
      simp only [Tryd.fn42_r8, h0, ln, lb, w1, Int.toNat_natCast, and_self, Nat.zero_add, Nat.mul_one, st, AmR, kp, exe, Arg.val, Env.at, lk, putd, AV.cells?, ok1, okM, abin, Option.getD_some, if_true, if_false, reduceCtorEq, Nat.reduceEqDiff, List.length_cons, List.length_nil, Option.map_some, ↓exe_lenl]
      simp only [Tryd.fn42_r18, hw, AmR, kp, exe, Arg.val, Env.at, lk, putd, ok1, okM, abin, Option.getD_some, if_true, if_false, reduceCtorEq, Nat.reduceEqDiff]
      exact next
    · have b1 : ((i : Int) == (A.length : Int)) = false := by rw [beq_eq_false_iff_ne]; omega
      simp only [Tryd.fn42_r7, la, b1, AmR, kp, pushA, exe, Arg.val, Env.at, lk, putd, ok1, okM, abin, Option.getD_some, if_true, if_false, reduceCtorEq, Nat.reduceEqDiff, Option.map_some, ↓exe_lenl]
      by_cases e2 : n = B.length
      · have b2 : ((n : Int) == (B.length : Int)) = true := by rw [e2, beq_self_eq_true]
        have hc : costC A B i n = .int .i64 ((A.length - i : Nat) : Int) := by unfold costC; rw [e2, cost_end_right]
        have w1 : IntKind.i64.wrap ((A.length : Int) - (i : Int)) = ((A.length - i : Nat) : Int) := by rw [IntWalk.i64_in _ (by omega)]; omega
        rw [hc] at st
        simp only [Tryd.fn42_r9, lb, b2, AmR, kp, pushA, exe, Arg.val, Env.at, lk, putd, ok1, okM, abin, Option.getD_some, if_true, if_false, reduceCtorEq, Nat.reduceEqDiff, Option.map_some, ↓exe_lenl]
        simp only [Tryd.fn42_r10, h0, ln, la, w1, Int.toNat_natCast, and_self, Nat.zero_add, Nat.mul_one, st, AmR, kp, exe, Arg.val, Env.at, lk, putd, AV.cells?, ok1, okM, abin, Option.getD_some, if_true, if_false, reduceCtorEq, Nat.reduceEqDiff, List.length_cons, List.length_nil, Option.map_some, ↓exe_lenl]
        simp only [Tryd.fn42_r18, hw, AmR, kp, exe, Arg.val, Env.at, lk, putd, ok1, okM, abin, Option.getD_some, if_true, if_false, reduceCtorEq, Nat.reduceEqDiff]
        exact next
      · have b2 : ((n : Int) == (B.length : Int)) = false := by rw [beq_eq_false_iff_ne]; omega
        obtain ⟨x, hx⟩ : ∃ x, A[i]? = some x := ⟨_, List.getElem?_eq_getElem (by omega)⟩
        obtain ⟨y, hy⟩ : ∃ y, B[n]? = some y := ⟨_, List.getElem?_eq_getElem (by omega)⟩
        obtain ⟨qa, oa, ca, ba, rfl, ga, xa⟩ := sa.at hx
        obtain ⟨qb, ob, cb, bb, rfl, gb, xb⟩ := sb.at hy
        obtain ⟨bo, q, go, q1, row1⟩ := hin.row1 (by omega)
        have goH := go H.next H.floor
        rw [AH.eta] at goH
        obtain ⟨b1q, gq, cq0⟩ := row1.at (j := n) (Nat.zero_le _) (by omega)
        obtain ⟨b1q', gq', cq1⟩ := row1.at (j := n + 1) (Nat.zero_le _) (by omega)
        have ebq : b1q' = b1q := Option.some.inj ((gq' 0 0).symm.trans (gq 0 0))
        subst ebq
        have gqH := gq H.next H.floor
        rw [AH.eta] at gqH
        obtain ⟨br, gr, cr1⟩ := hin.row.at (j := n + 1) (Nat.le_refl _) (by omega)
        have grH := gr H.next H.floor
        rw [AH.eta] at grH
        have hnew := hin.names.new
        have q1' : bo.cells[i + 1]? = some (.sl q 0 1 (B.length + 1) (some (B.length + 1))) := q1
        have wi : IntKind.i64.wrap ((i : Int) + 1) = ((i + 1 : Nat) : Int) := by rw [IntWalk.i64_in _ (by omega)]; omega
        have wn : IntKind.i64.wrap ((n : Int) + 1) = ((n + 1 : Nat) : Int) := by rw [IntWalk.i64_in _ (by omega)]; omega
        have li1 : (((i + 1 : Nat) : Int) < ((A.length + 1 : Nat) : Int)) = True := eq_true (by omega)
        have ln1 : (((n + 1 : Nat) : Int) < ((B.length + 1 : Nat) : Int)) = True := eq_true (by omega)
        have lia : ((i : Int) < (A.length : Int)) = True := eq_true (by omega)
        have lnb : ((n : Int) < (B.length : Int)) = True := eq_true (by omega)
        have hi1 : (0 : Int) ≤ ((i + 1 : Nat) : Int) := by omega
        have hn1 : (0 : Int) ≤ ((n + 1 : Nat) : Int) := by omega
        simp only [Tryd.fn42_r9, lb, b2, AmR, kp, pushA, exe, Arg.val, Env.at, lk, putd, ok1, okM, abin, Option.getD_some, if_true, if_false, reduceCtorEq, Nat.reduceEqDiff, Option.map_some, ↓exe_lenl]
        refine W_drawn' (by kernel_rfl) ?_
        simp only [Tryd.fn42_r11, Tryd.fn42_r11a, ga, gb, xa, xb, lia, lnb, hi0, h0, hnew, Int.toNat_natCast, and_self, Nat.mul_one, AmR, Cd_beq, kp, pushA, exe, Arg.val, Env.at, lk, putd, ok1, okM, abin, Option.getD_some, if_true, if_false, reduceCtorEq, Nat.reduceEqDiff, Nat.reduceAdd, true_and, List.nil_append, visH, List.filter_nil, List.flatMap_nil, List.contains_cons, List.contains_nil, Bool.or_false]
        refine ⟨fun e => ?_, fun e => ?_⟩
        · subst e
          have hc : costC A B i n = costC A B (i + 1) (n + 1) := by unfold costC; rw [cost_step_eq hx hy]
          rw [hc] at st
          unfold costC at st cq1
          simp only [Tryd.fn42_r12, goH, q1', li1, ln1, hi1, hn1, wi, wn, Int.toNat_natCast, and_self, Nat.zero_add, Nat.mul_one, AmR, kp, exe, Arg.val, Env.at, lk, putd, ok1, okM, abin, Option.getD_some, if_true, if_false, reduceCtorEq, Nat.reduceEqDiff]
          simp only [Tryd.fn42_r13, gqH, cq1, ln, h0, Int.toNat_natCast, and_self, Nat.zero_add, Nat.mul_one, st, AmR, kp, exe, Arg.val, Env.at, lk, putd, AV.cells?, ok1, okM, Option.getD_some, if_true, if_false, reduceCtorEq, Nat.reduceEqDiff, List.length_cons, List.length_nil, Option.map_some]
          simp only [Tryd.fn42_r18, hw, AmR, kp, exe, Arg.val, Env.at, lk, putd, ok1, okM, abin, Option.getD_some, if_true, if_false, reduceCtorEq, Nat.reduceEqDiff]
          exact next
        · have hc : costC A B i n = .int .i64 ((1 + min (cost (A.drop (i + 1)) (B.drop n)) (cost (A.drop i) (B.drop (n + 1))) : Nat) : Int) := by unfold costC; rw [cost_step_ne hx hy e]
          have hb1 := cost_bound A B (i + 1) n
          have hb2 := cost_bound A B i (n + 1)
          unfold costC at cq0 cr1
          refine W_drawn' (by kernel_rfl) ?_
          simp only [Tryd.fn42_r14, Tryd.fn42_r14a, Tryd.fn42_r14b, go, q1', gq, cq0, gr, cr1, li1, ln, ln1, hi1, h0, hn1, wi, wn, hnew, Int.toNat_natCast, and_self, Nat.zero_add, Nat.mul_one, AmR, kp, pushA, exe, Arg.val, Env.at, lk, putd, ok1, okM, abin, Option.getD_some, if_true, if_false, reduceCtorEq, Nat.reduceEqDiff, Nat.reduceAdd, true_and, List.nil_append, visH, List.filter_nil, List.flatMap_nil, List.contains_cons, List.contains_nil, Bool.or_false]
          refine ⟨fun hle => ?_, fun hle => ?_⟩
          · have wm : IntKind.i64.wrap (((cost (A.drop (i + 1)) (B.drop n) : Nat) : Int) + 1) = ((1 + min (cost (A.drop (i + 1)) (B.drop n)) (cost (A.drop i) (B.drop (n + 1))) : Nat) : Int) := by rw [IntWalk.i64_in _ (by omega)]; omega
            rw [hc] at st
            simp only [Tryd.fn42_r15, goH, q1', gqH, cq0, li1, ln, hi1, h0, wi, Int.toNat_natCast, and_self, Nat.zero_add, Nat.mul_one, AmR, kp, exe, Arg.val, Env.at, lk, putd, ok1, okM, abin, Option.getD_some, if_true, if_false, reduceCtorEq, Nat.reduceEqDiff]
            simp only [Tryd.fn42_r16, ln, h0, wm, Int.toNat_natCast, and_self, Nat.zero_add, Nat.mul_one, st, AmR, kp, exe, Arg.val, Env.at, lk, putd, AV.cells?, ok1, okM, abin, Option.getD_some, if_true, if_false, reduceCtorEq, Nat.reduceEqDiff, List.length_cons, List.length_nil, Option.map_some]
            simp only [Tryd.fn42_r18, hw, AmR, kp, exe, Arg.val, Env.at, lk, putd, ok1, okM, abin, Option.getD_some, if_true, if_false, reduceCtorEq, Nat.reduceEqDiff]
            exact next
          · have wm : IntKind.i64.wrap (((cost (A.drop i) (B.drop (n + 1)) : Nat) : Int) + 1) = ((1 + min (cost (A.drop (i + 1)) (B.drop n)) (cost (A.drop i) (B.drop (n + 1))) : Nat) : Int) := by rw [IntWalk.i64_in _ (by omega)]; omega
            rw [hc] at st
            simp only [Tryd.fn42_r17, grH, cr1, ln, ln1, hn1, h0, wn, wm, Int.toNat_natCast, and_self, Nat.zero_add, Nat.mul_one, st, AmR, kp, exe, Arg.val, Env.at, lk, putd, AV.cells?, ok1, okM, abin, Option.getD_some, if_true, if_false, reduceCtorEq, Nat.reduceEqDiff, List.length_cons, List.length_nil, Option.map_some]
            simp only [Tryd.fn42_r18, hw, AmR, kp, exe, Arg.val, Env.at, lk, putd, ok1, okM, abin, Option.getD_some, if_true, if_false, reduceCtorEq, Nat.reduceEqDiff]
            exact next

theorem Tryd.costsLoop (A B : List Str) (hA : A.length ≤ 512) (hB : B.length ≤ 512) (va vb : AV) (K : AX → St → Prop) (ks : List Fr) (L : ACode) (hL : L = .loop (some [0, 1, 5, 6]) Tryd.fn42_l1) (H0 : AH) (hva : StrS H0 va A) (hvb : StrS H0 vb B)
    (na : ∀ i o z n c, va = .sl i o z n c → i < H0.next) (nb : ∀ i o z n c, vb = .sl i o z n c → i < H0.next) (o : Nat)
    (hk : ∀ H u w, Tb H0 H o A B 0 → Nx Tryd.call K ks [(16, .bool false), (0, va), (1, vb), (5, .sl o 0 1 (A.length + 1) (some (A.length + 1))), (6, u), (16, w)] H) :
    ∀ (n : Nat) (k : Int) (H : AH), k = (n : Int) - 1 → n ≤ A.length + 1 → Tb H0 H o A B n →
    W Tryd.call K (.block 0 :: ks) [(0, va), (1, vb), (5, .sl o 0 1 (A.length + 1) (some (A.length + 1))), (6, .int .i64 k)] H L := by
  intro n
  induction n with
  | zero =>
    intro k H hkn hn hin
    refine W_loopN hL ?_
    simp only [Tryd.fn42_l1, Tryd.fn42_r3, AmR, kp, pushA, exe, Arg.val, Env.at, lk, putd, ok1, okM, abin, Option.getD_some, if_true, if_false, reduceCtorEq, Nat.reduceEqDiff]
    exact ⟨fun h => absurd h (by omega), fun _ => hk _ _ _ hin⟩
  | succ n ih =>
    intro k H hkn hn hin
    obtain rfl : k = (n : Int) := by omega
    refine W_loopN hL ?_
    have h0 : (0 : Int) ≤ (n : Int) := by omega
    have d1 : decide ((n : Int) ≥ 0) = true := decide_eq_true h0
    have hg : Grow H0 H := ⟨hin.floor, by have h1 := hin.lowO; have h2 := hin.nextO; omega, hin.old⟩
    have sb : StrS H vb B := SliceV.grow hvb hg nb
    have lb := SliceV.lenS sb
    have w1 : IntKind.i64.wrap ((B.length : Int) + 1) = ((B.length + 1 : Nat) : Int) := by rw [IntWalk.i64_in _ (by omega)]; omega
    have hw : IntKind.i64.wrap ((n : Int) - 1) = (n : Int) - 1 := IntWalk.i64_in _ (by omega)
    have ln : ((n : Int) < ((A.length + 1 : Nat) : Int)) = True := eq_true (by omega)
    have hm : (0 : Int) ≤ ((B.length + 1 : Nat) : Int) ∧ ((B.length + 1 : Nat) : Int) ≤ ((B.length + 1 : Nat) : Int) ∧ (B.length + 1) * 8 ≤ 140737488351232 ∧ ((B.length + 1 : Nat) : Int) ≤ 140737488351232 := ⟨by omega, Int.le_refl _, by omega, by omega⟩
    have hrow := hin.row (rep (B.length + 1) [.int .i64 0]) (rep_length _ _)
    unfold rep at hrow
    simp only [Tryd.fn42_l1, Tryd.fn42_r3, d1, AmR, kp, pushA, exe, Arg.val, Env.at, lk, putd, ok1, okM, abin, Option.getD_some, if_true, if_false, reduceCtorEq, Nat.reduceEqDiff]
    simp only [Tryd.fn42_r4, lb, w1, hm, Int.toNat_natCast, AmR, kp, exe, Arg.val, Env.at, lk, putd, ok1, okM, abin, Option.getD_some, if_true, if_false, reduceCtorEq, Nat.reduceEqDiff, Nat.reduceAdd, and_true, List.length_cons, List.length_nil, Option.map_some, rep, ↓exe_lenl]
    simp only [Tryd.fn42_r5, lb, AmR, kp, exe, Arg.val, Env.at, lk, putd, ok1, okM, Option.getD_some, if_true, if_false, reduceCtorEq, Nat.reduceEqDiff, Option.map_some, ↓exe_lenl]
    refine Tryd.costsIn A B hA hB va vb _ _ _ rfl H0 hva hvb na nb o H.next n (by omega) ?_ (B.length + 1) _ _ (by omega) (Nat.le_refl _) hrow
    intro H3 u w hin3
    obtain ⟨H4, st, hin4⟩ := hin3.put (by omega)
    unfold rowV at st
    simp only [Tryd.fn42_r19, h0, ln, Int.toNat_natCast, and_self, Nat.zero_add, Nat.mul_one, st, AmR, kp, exe, Arg.val, Env.at, lk, putd, AV.cells?, ok1, Option.getD_some, if_true, if_false, reduceCtorEq, Nat.reduceEqDiff, List.length_cons, List.length_nil, Option.map_some]
    simp only [Tryd.fn42_r20, hw, AmR, kp, exe, Arg.val, Env.at, lk, putd, ok1, okM, abin, Option.getD_some, if_true, if_false, reduceCtorEq, Nat.reduceEqDiff]
    exact ih _ H4 rfl (by omega) hin4.done

theorem Tryd.costs (A B : List Str) (hA : A.length ≤ 512) (hB : B.length ≤ 512) (va vb : AV) (H0 : AH) (hN : Names H0) (hf : H0.floor ≤ H0.next) (hva : StrS H0 va A) (hvb : StrS H0 vb B)
    (na : ∀ i o z n c, va = .sl i o z n c → i < H0.next) (nb : ∀ i o z n c, vb = .sl i o z n c → i < H0.next) :
    ∃ H', Tryd.call 42 [va, vb] H0 = some (.ok (.sl H0.next 0 1 (A.length + 1) (some (A.length + 1))), H') ∧ Tb H0 H' H0.next A B 0 := by
  suffices h : W Tryd.call (endK Tryd.fn42.res (TblP A B H0)) [] [(0, va), (1, vb)] H0 Tryd.fn42.code by
    obtain ⟨vs, H', ⟨rfl, hp⟩, hc⟩ := ecall_E 4 [] (lk Tryd.ext) (lk Tryd.tab) (f := 42) (fn := Tryd.fn42) (args := [va, vb]) (H := H0) rfl rfl rfl h
    exact ⟨H', hc, hp⟩
  have la := SliceV.lenS hva
  have w1 : IntKind.i64.wrap ((A.length : Int) + 1) = ((A.length + 1 : Nat) : Int) := by rw [IntWalk.i64_in _ (by omega)]; omega
  have hm := rests_start (H0 := H0) A.length (by omega)
  have tb := Tb.new hN hf A B (rep (A.length + 1) [.nils]) (rep_length _ _)
  unfold rep at tb
  simp only [Tryd.fn42, Tryd.fn42_r0, Tryd.fn42_r1, Tryd.fn42_r2, la, w1, hm, Int.toNat_natCast, AmR, kp, exe, Arg.val, Env.at, lk, putd, ok1, okM, abin, Option.getD_some, if_true, if_false, reduceCtorEq, Nat.reduceEqDiff, Nat.reduceAdd, and_true, List.length_cons, List.length_nil, Option.map_some, rep, ↓exe_lenl]
  refine Tryd.costsLoop A B hA hB va vb _ _ _ rfl H0 hva hvb na nb H0.next ?_ (A.length + 1) _ _ (by omega) (Nat.le_refl _) tb
  intro H u w tb'
  simp only [Tryd.fn42_r21, AmR, kp, exe, Arg.val, Env.at, lk, putd, ok1, Option.getD_some, if_true, if_false, reduceCtorEq, Nat.reduceEqDiff, resAll, resOf, Option.some.injEq, exists_eq_left']
  exact ⟨rfl, tb'⟩

end Go.Am
