/-
align.Pairs on the machine. Conditions: the lists are short.
-/
import Derived.Test.YtjpppajbhpbkiaaDoorAmL
set_option linter.unusedSimpArgs false
set_option linter.unusedVariables false
namespace Go.Am

theorem Tryd.pairsLoop (A B : List Str) (hA : A.length ≤ 512) (hB : B.length ≤ 512) (va vb : AV) (K : AX → St → Prop) (ks : List Fr) (L : ACode) (hL : L = .loop (some [0, 1, 6, 7, 8, 9]) Tryd.fn26_l0) (H0 H1 : AH) (o : Nat) (tb : Tb H0 H1 o A B 0) (hva : StrS H1 va A) (hvb : StrS H1 vb B)
    (na : ∀ i o z n c, va = .sl i o z n c → i < H1.next) (nb : ∀ i o z n c, vb = .sl i o z n c → i < H1.next) (total : List Mt) (htot : total.length ≤ 2000)
    (hk : ∀ H v w, PW H1 H v total → Nx Tryd.call K ks [(26, .bool false), (0, va), (1, vb), (6, .sl o 0 1 (A.length + 1) (some (A.length + 1))), (7, v), (8, .int .i64 A.length), (9, .int .i64 B.length), (26, w)] H) :
    ∀ (n i k : Nat) (H : AH) (v : AV) (acc : List Mt), (A.length - i) + (B.length - k) ≤ n → i ≤ A.length → k ≤ B.length → PW H1 H v acc → acc ++ pairsAt A B i k = total →
    W Tryd.call K (.block 0 :: ks) [(0, va), (1, vb), (6, .sl o 0 1 (A.length + 1) (some (A.length + 1))), (7, v), (8, .int .i64 i), (9, .int .i64 k)] H L := by
  have fin : ∀ H v, PW H1 H v total → W Tryd.call K (.block 0 :: ks) [(0, va), (1, vb), (6, .sl o 0 1 (A.length + 1) (some (A.length + 1))), (7, v), (8, .int .i64 A.length), (9, .int .i64 B.length)] H L := fun H v hp => by
    refine W_loopN hL ?_
    have la := SliceV.lenS (SliceV.grow hva hp.grow na)
    have lb := SliceV.lenS (SliceV.grow hvb hp.grow nb)
    have d1 : decide ((A.length : Int) < (A.length : Int)) = false := decide_eq_false (by omega)
    have d2 : decide ((B.length : Int) < (B.length : Int)) = false := decide_eq_false (by omega)
    simp only [Tryd.fn26_l0, Tryd.fn26_r6, la, lb, d1, d2, AmR, kp, pushA, exe, Arg.val, Env.at, lk, putd, ok1, okM, abin, Option.getD_some, if_true, if_false, reduceCtorEq, Nat.reduceEqDiff, Bool.false_eq_true, Option.map_some, ↓exe_lenl]
    exact hk _ _ _ hp
  have stop : ∀ (i k : Nat) (H : AH) (v : AV) (acc : List Mt), i = A.length → k = B.length → PW H1 H v acc → acc ++ pairsAt A B i k = total → W Tryd.call K (.block 0 :: ks) [(0, va), (1, vb), (6, .sl o 0 1 (A.length + 1) (some (A.length + 1))), (7, v), (8, .int .i64 i), (9, .int .i64 k)] H L := fun i k H v acc hi hk' hp ht => by
    subst hi hk'
    rw [pairs_end, List.append_nil] at ht
    subst ht
    exact fin H v hp
  intro n
  induction n with
  | zero =>
    intro i k H v acc hn hi hk' hp ht
    exact stop i k H v acc (by omega) (by omega) hp ht
  | succ n ih =>
    intro i k H v acc hn hi hk' hp ht
    by_cases hend : i = A.length ∧ k = B.length
    · exact stop i k H v acc hend.1 hend.2 hp ht
    refine W_loopN hL ?_
    have sa : StrS H va A := SliceV.grow hva hp.grow na
    have sb : StrS H vb B := SliceV.grow hvb hp.grow nb
    have la := SliceV.lenS sa
    have lb := SliceV.lenS sb
    have hi0 : (0 : Int) ≤ (i : Int) := by omega
    have hk0 : (0 : Int) ≤ (k : Int) := by omega
    have wi : IntKind.i64.wrap ((i : Int) + 1) = ((i + 1 : Nat) : Int) := by rw [IntWalk.i64_in _ (by omega)]; omega
    have wk : IntKind.i64.wrap ((k : Int) + 1) = ((k + 1 : Nat) : Int) := by rw [IntWalk.i64_in _ (by omega)]; omega
    have hacc : acc.length ≤ 2000 := by rw [← ht, List.length_append] at htot; omega
    have hnew := hp.names.new
    have left : i < A.length → pairsAt A B i k = ⟨(i : Int), -1⟩ :: pairsAt A B (i + 1) k → ∃ v' H', aapp (H.push 56 true [.int .i64 (i : Int), .int .i64 (-1)]) 56 2 16 v [.int .i64 (i : Int), .int .i64 (-1)] = some (.ok v', H') ∧
        W Tryd.call K (.block 0 :: ks) [(0, va), (1, vb), (6, .sl o 0 1 (A.length + 1) (some (A.length + 1))), (7, v'), (8, .int .i64 ((i + 1 : Nat) : Int)), (9, .int .i64 k)] H' L := fun hlt e => by
      obtain ⟨v', H', e1, e2⟩ := hp.add ⟨(i : Int), -1⟩ (by omega)
      exact ⟨v', H', e1, ih (i + 1) k H' v' _ (by omega) (by omega) hk' e2 (by rw [List.append_assoc, List.singleton_append, ← e]; exact ht)⟩
    have right : k < B.length → pairsAt A B i k = ⟨-1, (k : Int)⟩ :: pairsAt A B i (k + 1) → ∃ v' H', aapp (H.push 56 true [.int .i64 (-1), .int .i64 (k : Int)]) 56 2 16 v [.int .i64 (-1), .int .i64 (k : Int)] = some (.ok v', H') ∧
        W Tryd.call K (.block 0 :: ks) [(0, va), (1, vb), (6, .sl o 0 1 (A.length + 1) (some (A.length + 1))), (7, v'), (8, .int .i64 i), (9, .int .i64 ((k + 1 : Nat) : Int))] H' L := fun hlt e => by
      obtain ⟨v', H', e1, e2⟩ := hp.add ⟨-1, (k : Int)⟩ (by omega)
      exact ⟨v', H', e1, ih i (k + 1) H' v' _ (by omega) hi (by omega) e2 (by rw [List.append_assoc, List.singleton_append, ← e]; exact ht)⟩
    have cl : ∀ x y : AV, (H.push 56 true [x, y]).cellsAt H.next 0 2 = some [x, y] := fun x y => cellsAt_new _ _ _ _ rfl
    simp only [Tryd.fn26_l0, AmR, kp, Env.at, lk, Option.getD_some, if_true, if_false, reduceCtorEq, Nat.reduceEqDiff]
    by_cases h1 : i < A.length
    · have d1 : decide ((i : Int) < (A.length : Int)) = true := decide_eq_true (by omega)
      have lia : ((i : Int) < (A.length : Int)) = True := eq_true (by omega)
      simp only [Tryd.fn26_r6, la, d1, AmR, kp, pushA, exe, Arg.val, Env.at, lk, putd, ok1, okM, abin, Option.getD_some, if_true, if_false, reduceCtorEq, Nat.reduceEqDiff, Option.map_some, ↓exe_lenl]
      by_cases h2 : k < B.length
      · have d2 : decide ((k : Int) < (B.length : Int)) = true := decide_eq_true (by omega)
        have lkb : ((k : Int) < (B.length : Int)) = True := eq_true (by omega)
        obtain ⟨x, hx⟩ : ∃ x, A[i]? = some x := ⟨_, List.getElem?_eq_getElem h1⟩
        obtain ⟨y, hy⟩ : ∃ y, B[k]? = some y := ⟨_, List.getElem?_eq_getElem h2⟩
        obtain ⟨qa, oa, ca, ba, rfl, ga, xa⟩ := sa.at hx
        obtain ⟨qb, ob, cb, bb, rfl, gb, xb⟩ := sb.at hy
        by_cases hxy : x = y
        · subst hxy
          have ep := pairs_match hx hy
          obtain ⟨v', H', e1, e2⟩ := hp.add ⟨(i : Int), (k : Int)⟩ (by omega)
          simp only at e1
          refine W_drawn' (by kernel_rfl) ?_
          simp only [Tryd.fn26_r7, Tryd.fn26_r7a, Tryd.fn26_r7b, Tryd.fn26_r7c, ga, gb, xa, xb, la, lb, lia, lkb, hi0, hk0, hnew, Int.toNat_natCast, and_self, Nat.mul_one, beq_self_eq_true, AmR, kp, pushA, exe, Arg.val, Env.at, lk, putd, ok1, okM, abin, Option.getD_some, if_true, if_false, reduceCtorEq, Nat.reduceEqDiff, Nat.reduceAdd, decide_true, true_and, List.nil_append, visH, List.filter_nil, List.flatMap_nil, List.contains_cons, List.contains_nil, Bool.or_false, Option.map_some, ↓exe_lenl]
          simp only [Tryd.fn26_r8, cl, takeFrom, e1, AmR, kp, exe, Arg.val, Env.at, lk, putd, AV.cells?, ok1, okM, Option.getD_some, if_true, if_false, reduceCtorEq, Nat.reduceEqDiff, Nat.reduceAdd, Nat.reduceMul, Bool.true_eq_false, and_true, List.append_nil, Nat.reduceLeDiff, List.map_cons, List.map_nil, putAt, solid, List.all_cons, List.all_nil, Bool.and_self, List.length_cons, List.length_nil, Option.map_some, afill, rep, List.reduceReplicate, List.flatten_cons, List.flatten_nil, List.set_cons_zero, List.set_cons_succ]
          simp only [Tryd.fn26_r9, wi, wk, AmR, kp, exe, Arg.val, Env.at, lk, putd, ok1, okM, abin, Option.getD_some, if_true, if_false, reduceCtorEq, Nat.reduceEqDiff]
          exact ih (i + 1) (k + 1) H' v' _ (by omega) (by omega) (by omega) e2 (by rw [List.append_assoc, List.singleton_append, ← ep]; exact ht)
        · have bxy : (x == y) = false := beq_false_of_ne hxy
          obtain ⟨bo, q0, b0, g1, g2, g3, g4, g5⟩ := tb.at (i := i) (k := k) hi hk'
          obtain ⟨bo', q1, b1, g1', g2', g3', g4', g5'⟩ := tb.at (i := i + 1) (k := k) (by omega) hk'
          have ebo : bo' = bo := Option.some.inj (g1'.symm.trans g1)
          subst ebo
          have go : ∀ nx fl, (AH.mk H.blks nx fl).get o = some bo' := fun _ _ => (hp.old o tb.nextO).trans g1
          have gq0 : ∀ nx fl, (AH.mk H.blks nx fl).get q0 = some b0 := fun _ _ => (hp.old q0 g3).trans g4
          have gq1 : ∀ nx fl, (AH.mk H.blks nx fl).get q1 = some b1 := fun _ _ => (hp.old q1 g3').trans g4'
          have li : ((i : Int) < ((A.length + 1 : Nat) : Int)) = True := eq_true (by omega)
          have li1 : (((i + 1 : Nat) : Int) < ((A.length + 1 : Nat) : Int)) = True := eq_true (by omega)
          have lk1 : ((k : Int) < ((B.length + 1 : Nat) : Int)) = True := eq_true (by omega)
          have hi1 : (0 : Int) ≤ ((i + 1 : Nat) : Int) := by omega
          have hb1 := cost_bound A B (i + 1) k
          have d3 : ((k : Int) == (B.length : Int)) = false := by rw [beq_eq_false_iff_ne]; omega
          have wm : IntKind.i64.wrap (1 + ((cost (A.drop (i + 1)) (B.drop k) : Nat) : Int)) = ((1 + cost (A.drop (i + 1)) (B.drop k) : Nat) : Int) := by rw [IntWalk.i64_in _ (by omega)]; omega
          refine W_drawn' (by kernel_rfl) ?_
          simp only [Tryd.fn26_r7, Tryd.fn26_r7a, Tryd.fn26_r7b, Tryd.fn26_r7c, ga, gb, xa, xb, la, lb, lia, lkb, hi0, hk0, hnew, Int.toNat_natCast, and_self, Nat.mul_one, bxy, AmR, kp, pushA, exe, Arg.val, Env.at, lk, putd, ok1, okM, abin, Option.getD_some, if_true, if_false, reduceCtorEq, Nat.reduceEqDiff, Nat.reduceAdd, decide_true, true_and, List.nil_append, visH, List.filter_nil, List.flatMap_nil, List.contains_cons, List.contains_nil, Bool.or_false, Option.map_some, ↓exe_lenl]
          by_cases hc : cost (A.drop i) (B.drop k) = 1 + cost (A.drop (i + 1)) (B.drop k)
          · obtain ⟨v', H', e1, e2⟩ := left h1 (pairs_left hx hy hxy hc)
            have bc : (((cost (A.drop i) (B.drop k) : Nat) : Int) == ((1 + cost (A.drop (i + 1)) (B.drop k) : Nat) : Int)) = true := by rw [hc, beq_self_eq_true]
            refine W_drawn' (by kernel_rfl) ?_
            simp only [Tryd.fn26_r10, Tryd.fn26_r10a, Tryd.fn26_r10b, Tryd.fn26_r10c, Tryd.fn26_r10d, go, gq0, gq1, g2, g2', g5, g5', la, lb, d1, d3, li, li1, lk1, hi0, hi1, hk0, wi, wm, bc, hnew, Int.toNat_natCast, and_self, Nat.zero_add, Nat.mul_one, AmR, kp, pushA, exe, Arg.val, Env.at, lk, putd, ok1, okM, abin, Option.getD_some, if_true, if_false, reduceCtorEq, Nat.reduceEqDiff, Nat.reduceAdd, Bool.false_eq_true, true_and, List.nil_append, visH, List.filter_nil, List.flatMap_nil, List.contains_cons, List.contains_nil, Bool.or_false, Option.map_some, ↓exe_lenl]
            simp only [Tryd.fn26_r11, cl, takeFrom, e1, AmR, kp, exe, Arg.val, Env.at, lk, putd, AV.cells?, ok1, okM, Option.getD_some, if_true, if_false, reduceCtorEq, Nat.reduceEqDiff, Nat.reduceAdd, Nat.reduceMul, Bool.true_eq_false, and_true, List.append_nil, Nat.reduceLeDiff, List.map_cons, List.map_nil, putAt, solid, List.all_cons, List.all_nil, Bool.and_self, List.length_cons, List.length_nil, Option.map_some, afill, rep, Int.reduceNeg, List.reduceReplicate, List.flatten_cons, List.flatten_nil, List.set_cons_zero, List.set_cons_succ]
            simp only [Tryd.fn26_r12, wi, AmR, kp, exe, Arg.val, Env.at, lk, putd, ok1, okM, abin, Option.getD_some, if_true, if_false, reduceCtorEq, Nat.reduceEqDiff]
            exact e2
          · obtain ⟨v', H', e1, e2⟩ := right h2 (pairs_right hx hy hxy hc)
            have bc : (((cost (A.drop i) (B.drop k) : Nat) : Int) == ((1 + cost (A.drop (i + 1)) (B.drop k) : Nat) : Int)) = false := by rw [beq_eq_false_iff_ne]; omega
            refine W_drawn' (by kernel_rfl) ?_
            simp only [Tryd.fn26_r10, Tryd.fn26_r10a, Tryd.fn26_r10b, Tryd.fn26_r10c, Tryd.fn26_r10d, go, gq0, gq1, g2, g2', g5, g5', la, lb, d1, d3, li, li1, lk1, hi0, hi1, hk0, wi, wm, bc, hnew, Int.toNat_natCast, and_self, Nat.zero_add, Nat.mul_one, AmR, kp, pushA, exe, Arg.val, Env.at, lk, putd, ok1, okM, abin, Option.getD_some, if_true, if_false, reduceCtorEq, Nat.reduceEqDiff, Nat.reduceAdd, Bool.false_eq_true, true_and, List.nil_append, visH, List.filter_nil, List.flatMap_nil, List.contains_cons, List.contains_nil, Bool.or_false, Option.map_some, ↓exe_lenl]
            simp only [Tryd.fn26_r13, cl, takeFrom, e1, AmR, kp, exe, Arg.val, Env.at, lk, putd, AV.cells?, ok1, okM, Option.getD_some, if_true, if_false, reduceCtorEq, Nat.reduceEqDiff, Nat.reduceAdd, Nat.reduceMul, Bool.true_eq_false, and_true, List.append_nil, Nat.reduceLeDiff, List.map_cons, List.map_nil, putAt, solid, List.all_cons, List.all_nil, Bool.and_self, List.length_cons, List.length_nil, Option.map_some, afill, rep, Int.reduceNeg, List.reduceReplicate, List.flatten_cons, List.flatten_nil, List.set_cons_zero, List.set_cons_succ]
            simp only [Tryd.fn26_r14, wk, AmR, kp, exe, Arg.val, Env.at, lk, putd, ok1, okM, abin, Option.getD_some, if_true, if_false, reduceCtorEq, Nat.reduceEqDiff]
            exact e2
      · obtain rfl : k = B.length := by omega
        have d2 : decide ((B.length : Int) < (B.length : Int)) = false := decide_eq_false (by omega)
        obtain ⟨v', H', e1, e2⟩ := left h1 (pairs_left_end h1)
        refine W_drawn' (by kernel_rfl) ?_
        simp only [Tryd.fn26_r7, Tryd.fn26_r7a, Tryd.fn26_r7b, Tryd.fn26_r7c, la, lb, d1, d2, AmR, kp, pushA, exe, Arg.val, Env.at, lk, putd, ok1, okM, abin, Option.getD_some, if_true, if_false, reduceCtorEq, Nat.reduceEqDiff, Nat.reduceAdd, Bool.false_eq_true, true_and, List.nil_append, visH, List.flatMap_nil, Option.map_some, ↓exe_lenl]
        refine W_drawn' (by kernel_rfl) ?_
        simp only [Tryd.fn26_r10, Tryd.fn26_r10a, Tryd.fn26_r10b, Tryd.fn26_r10c, Tryd.fn26_r10d, lb, beq_self_eq_true, AmR, kp, pushA, exe, Arg.val, Env.at, lk, putd, ok1, okM, abin, Option.getD_some, if_true, if_false, reduceCtorEq, Nat.reduceEqDiff, Nat.reduceAdd, true_and, List.nil_append, visH, List.flatMap_nil, Option.map_some, ↓exe_lenl]
        simp only [Tryd.fn26_r11, cl, takeFrom, e1, AmR, kp, exe, Arg.val, Env.at, lk, putd, AV.cells?, ok1, okM, Option.getD_some, if_true, if_false, reduceCtorEq, Nat.reduceEqDiff, Nat.reduceAdd, Nat.reduceMul, Bool.true_eq_false, and_true, List.append_nil, Nat.reduceLeDiff, List.map_cons, List.map_nil, putAt, solid, List.all_cons, List.all_nil, Bool.and_self, List.length_cons, List.length_nil, Option.map_some, afill, rep, Int.reduceNeg, List.reduceReplicate, List.flatten_cons, List.flatten_nil, List.set_cons_zero, List.set_cons_succ]
        simp only [Tryd.fn26_r12, wi, AmR, kp, exe, Arg.val, Env.at, lk, putd, ok1, okM, abin, Option.getD_some, if_true, if_false, reduceCtorEq, Nat.reduceEqDiff]
        exact e2
    · obtain rfl : i = A.length := by omega
      have h2 : k < B.length := by omega
      have d1 : decide ((A.length : Int) < (A.length : Int)) = false := decide_eq_false (by omega)
      have d2 : decide ((k : Int) < (B.length : Int)) = true := decide_eq_true (by omega)
      have d3 : ((k : Int) == (B.length : Int)) = false := by rw [beq_eq_false_iff_ne]; omega
      obtain ⟨v', H', e1, e2⟩ := right h2 (pairs_right_end h2)
      simp only [Tryd.fn26_r6, la, lb, d1, d2, AmR, kp, pushA, exe, Arg.val, Env.at, lk, putd, ok1, okM, abin, Option.getD_some, if_true, if_false, reduceCtorEq, Nat.reduceEqDiff, Bool.false_eq_true, Option.map_some, ↓exe_lenl]
      refine W_drawn' (by kernel_rfl) ?_
      simp only [Tryd.fn26_r7, Tryd.fn26_r7a, Tryd.fn26_r7b, Tryd.fn26_r7c, la, d1, AmR, kp, pushA, exe, Arg.val, Env.at, lk, putd, ok1, okM, abin, Option.getD_some, if_true, if_false, reduceCtorEq, Nat.reduceEqDiff, Nat.reduceAdd, Bool.false_eq_true, true_and, List.nil_append, visH, List.flatMap_nil, Option.map_some, ↓exe_lenl]
      refine W_drawn' (by kernel_rfl) ?_
      simp only [Tryd.fn26_r10, Tryd.fn26_r10a, Tryd.fn26_r10b, Tryd.fn26_r10c, Tryd.fn26_r10d, la, lb, d1, d3, AmR, kp, pushA, exe, Arg.val, Env.at, lk, putd, ok1, okM, abin, Option.getD_some, if_true, if_false, reduceCtorEq, Nat.reduceEqDiff, Nat.reduceAdd, Bool.false_eq_true, true_and, List.nil_append, visH, List.flatMap_nil, Option.map_some, ↓exe_lenl]
      simp only [Tryd.fn26_r13, cl, takeFrom, e1, AmR, kp, exe, Arg.val, Env.at, lk, putd, AV.cells?, ok1, okM, Option.getD_some, if_true, if_false, reduceCtorEq, Nat.reduceEqDiff, Nat.reduceAdd, Nat.reduceMul, Bool.true_eq_false, and_true, List.append_nil, Nat.reduceLeDiff, List.map_cons, List.map_nil, putAt, solid, List.all_cons, List.all_nil, Bool.and_self, List.length_cons, List.length_nil, Option.map_some, afill, rep, Int.reduceNeg, List.reduceReplicate, List.flatten_cons, List.flatten_nil, List.set_cons_zero, List.set_cons_succ]
      simp only [Tryd.fn26_r14, wk, AmR, kp, exe, Arg.val, Env.at, lk, putd, ok1, okM, abin, Option.getD_some, if_true, if_false, reduceCtorEq, Nat.reduceEqDiff]
      exact e2

theorem pairs_len : ∀ (n : Nat) (a b : List Str) (i k : Nat), a.length + b.length ≤ n → (pairsS a b i k).length ≤ a.length + b.length
  | n, [], [], i, k, _ => by rw [pairsS]; simp
  | 0, a :: l, b, i, k, h => by simp at h
  | 0, [], b :: m, i, k, h => by simp at h
  | n + 1, [], b :: m, i, k, h => by
    simp only [List.length_cons] at h
    have := pairs_len n [] m i (k + 1) (by omega)
    rw [pairsS]
    simp only [List.length_cons] at this ⊢
    omega
  | n + 1, a :: l, [], i, k, h => by
    simp only [List.length_cons] at h
    have := pairs_len n l [] (i + 1) k (by omega)
    rw [pairsS]
    simp only [List.length_cons] at this ⊢
    omega
  | n + 1, a :: l, b :: m, i, k, h => by
    simp only [List.length_cons] at h
    have h1 := pairs_len n l m (i + 1) (k + 1) (by omega)
    have h2 := pairs_len n l (b :: m) (i + 1) k (by simp only [List.length_cons]; omega)
    have h3 := pairs_len n (a :: l) m i (k + 1) (by simp only [List.length_cons]; omega)
    simp only [List.length_cons] at h1 h2 h3 ⊢
    rw [pairsS]
    split
    · simp only [List.length_cons]; omega
    · split <;> (simp only [List.length_cons]; omega)

def pairsL (A B : List Str) : List Mt := pairsS A B 0 0
theorem pairsL_len (A B : List Str) : (pairsL A B).length ≤ A.length + B.length := pairs_len _ A B 0 0 (Nat.le_refl _)

theorem PW.start {H1 : AH} (hN : Names H1) (hf : H1.floor ≤ H1.next) : PW H1 H1 .nils [] := ⟨hN, fun _ _ => rfl, ⟨by decide, hf, Nat.le_refl _, .inl ⟨rfl, rfl, rfl⟩⟩, hf, Grow.refl _⟩

def PairsP (A B : List Str) (H : AH) (vs : List AV) (H' : AH) : Prop := ∃ v', vs = [v', .int .i64 0] ∧ NewV H 2 v' (pairsL A B).length (rowsOf Mt.cells (pairsL A B)) H'

theorem Tryd.fits (A B : List Str) (hA : A.length ≤ 512) (hB : B.length ≤ 512) (va vb : AV) (H : AH) (hva : StrS H va A) (hvb : StrS H vb B) : Tryd.call 32 [va, vb] H = some (.ok (.bool true), H) := by
  obtain ⟨v', w', bs, kq, hvw, s1, s2, hN, _, n1, n2⟩ := views_two hva hvb (strs_flat A) (strs_flat B) 4 (rest := []) fun k => views_nil H k
  refine ecall_flat 4 [] _ _ (out := [.bool true]) rfl rfl rfl hvw rfl ?_
  show W Tryd.call _ _ _ _ _
  have la := s1.lenS
  have lb := s2.lenS
  have d1 : decide ((A.length : Int) ≤ 512) = true := decide_eq_true (by omega)
  have d2 : decide ((B.length : Int) ≤ 512) = true := decide_eq_true (by omega)
  simp only [Tryd.fn32, Tryd.fn32_r0, Tryd.fn32_r1, la, lb, d1, d2, AmR, kp, exe, number, Arg.val, Env.at, lk, putd, ok1, okM, abin, Option.getD_some, if_true, if_false, reduceCtorEq, Nat.reduceEqDiff, Nat.reduceAdd, resAll, resOf, List.append_nil, Option.map_some, ↓exe_lenl]

theorem Tryd.pairs (A B : List Str) (hA : A.length ≤ 512) (hB : B.length ≤ 512) (va vb : AV) (H : AH) (hva : StrS H va A) (hvb : StrS H vb B) :
    ∃ v' H', Tryd.call 26 [va, vb] H = some (.ok (.tup [v', .int .i64 0]), H') ∧ NewV H 2 v' (pairsL A B).length (rowsOf Mt.cells (pairsL A B)) H' := by
  obtain ⟨v', w', bs, kq, hvw, s1, s2, hN, _, n1, n2⟩ := views_two hva hvb (strs_flat A) (strs_flat B) 4 (rest := []) fun k => views_nil H k
  suffices h : W Tryd.call (endK Tryd.fn26.res (Back kq H (PairsP A B H))) [] [(0, v'), (1, w')] ⟨bs ++ [], kq, kq⟩ Tryd.fn26.code by
    obtain ⟨vs, H', ⟨v', rfl, hp⟩, hc⟩ := ecall_vE 4 [] (lk Tryd.ext) (lk Tryd.tab) (f := 26) (fn := Tryd.fn26) rfl rfl rfl hvw h
    exact ⟨v', H', hc, hp⟩
  generalize hH : (⟨bs ++ [], kq, kq⟩ : AH) = H0 at s1 s2 hN ⊢
  have hn : H0.next = kq := by rw [← hH]
  have hfl : H0.floor ≤ H0.next := by rw [← hH]; exact Nat.le_refl _
  subst hn
  have hfit := Tryd.fits A B hA hB v' w' H0 s1 s2
  obtain ⟨H1, hc, tb⟩ := Tryd.rests A B hA hB v' w' H0 hN hfl s1 s2 n1 n2
  have hg : Grow H0 H1 := ⟨tb.floor, by have := tb.nextO; omega, tb.old⟩
  have hlen := pairsL_len A B
  simp only [Tryd.fn26, Tryd.fn26_r0, Tryd.fn26_r1, hfit, AmR, kp, pushA, exe, Arg.val, Env.at, lk, putd, ok1, okM, Option.getD_some, if_true, if_false, Bool.not_true, reduceCtorEq, Nat.reduceEqDiff, aun, List.map_cons, List.map_nil]
  simp only [Tryd.fn26_r3, Tryd.fn26_r4, Tryd.fn26_r5, hc, AmR, kp, exe, Arg.val, Env.at, lk, putd, ok1, Option.getD_some, if_true, if_false, reduceCtorEq, Nat.reduceEqDiff, List.map_cons, List.map_nil]
  refine Tryd.pairsLoop A B hA hB v' w' _ _ _ rfl H0 H1 H0.next tb (SliceV.grow s1 hg n1) (SliceV.grow s2 hg n2) (fun i o z n c e => Nat.lt_of_lt_of_le (n1 i o z n c e) hg.2.1) (fun i o z n c e => Nat.lt_of_lt_of_le (n2 i o z n c e) hg.2.1) (pairsL A B) (by omega) ?_ (A.length + B.length) 0 0 H1 .nils [] (by omega) (by omega) (by omega) (PW.start tb.names (by rw [tb.floor]; exact Nat.le_trans hfl hg.2.1)) rfl
  intro H2 v2 w hp
  simp only [Tryd.fn26_r15, AmR, kp, exe, Arg.val, Env.at, lk, putd, ok1, Option.getD_some, if_true, if_false, reduceCtorEq, Nat.reduceEqDiff, resAll, resOf, Option.some.injEq, exists_eq_left']
  exact hp.out.back hg.2.1 H (mts_flat _) rfl fun v' H' a1 => ⟨v', rfl, a1⟩

end Go.Am
