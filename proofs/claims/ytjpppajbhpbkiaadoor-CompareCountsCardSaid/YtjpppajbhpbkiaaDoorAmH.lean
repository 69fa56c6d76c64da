/-
align.rests. Conditions: the lists are short.
-/
import Derived.Test.YtjpppajbhpbkiaaDoorAmG
set_option linter.unusedSimpArgs false
set_option linter.unusedVariables false
namespace Go.Am

def StrS (H : AH) (v : AV) (l : List Str) : Prop := SliceV H 1 v l.length (rowsOf strC l)

/-- A string of a slice of strings. -/
theorem StrS.at {H : AH} {v : AV} {l : List Str} (h : StrS H v l) {i : Nat} {x : Str} (hx : l[i]? = some x) :
    ∃ q o c b, v = .sl q o 1 l.length c ∧ (∀ nx fl, (AH.mk H.blks nx fl).get q = some b) ∧ b.cells[o + i]? = some (.str x) := by
  have hi : i < l.length := by
    by_cases hlt : i < l.length
    · exact hlt
    · rw [List.getElem?_eq_none (by omega)] at hx; cases hx
  rcases h.cases with ⟨rfl, h, _⟩ | ⟨rfl, h, _⟩ | ⟨q, o, c, b, rfl, hb, hlb, hcs⟩
  · omega
  · omega
  · refine ⟨q, o, c, b, rfl, fun _ _ => hb, ?_⟩
    have := cell_rowO strC_len hcs hx (j := 0) (by omega)
    rw [Nat.mul_one, Nat.add_zero] at this
    exact this

/-- The cell of a row. -/
theorem RowAt.at {H : AH} {r : Nat} {A B : List Str} {i k : Nat} (h : RowAt H r A B i k) {j : Nat} (hj : k ≤ j) (hj' : j ≤ B.length) :
    ∃ b, (∀ nx fl, (AH.mk H.blks nx fl).get r = some b) ∧ b.cells[j]? = some (costC A B i j) := by
  obtain ⟨cells, wh, s0, hg, hl, hc⟩ := h
  exact ⟨_, fun _ _ => hg, hc j hj hj'⟩

theorem In.row1 {w : Bool} {H0 H : AH} {o r : Nat} {A B : List Str} {i n : Nat} (h : In w H0 H o r A B i n) (hi : i < A.length) :
    ∃ bo q, (∀ nx fl, (AH.mk H.blks nx fl).get o = some bo) ∧ bo.cells[i + 1]? = some (rowV B q) ∧ RowAt H q A B (i + 1) 0 := by
  obtain ⟨oc, owh, os0, og, ol, oi, orow⟩ := h.out
  obtain ⟨q, q1, q2, q3, q4, q5, q6⟩ := orow (i + 1) (by omega) (by omega)
  exact ⟨_, q, fun _ _ => og, q1, q6⟩
theorem In.row0 {H0 H : AH} {o r : Nat} {A B : List Str} {i n : Nat} (h : In true H0 H o r A B i n) :
    ∃ bo, (∀ nx fl, (AH.mk H.blks nx fl).get o = some bo) ∧ bo.cells[i]? = some (rowV B r) ∧ ∀ q, (i < A.length → bo.cells[i + 1]? = some (rowV B q)) → True := by
  obtain ⟨oc, owh, os0, og, ol, oi, orow⟩ := h.out
  exact ⟨_, fun _ _ => og, oi rfl, fun _ _ => trivial⟩

theorem Tryd.restsIn (A B : List Str) (hA : A.length ≤ 512) (hB : B.length ≤ 512) (va vb : AV) (K : AX → St → Prop) (ks : List Fr) (L : ACode) (hL : L = .loop (some [0, 1, 5, 6, 7]) Tryd.fn41_l0) (H0 : AH) (hva : StrS H0 va A) (hvb : StrS H0 vb B)
    (na : ∀ i o z n c, va = .sl i o z n c → i < H0.next) (nb : ∀ i o z n c, vb = .sl i o z n c → i < H0.next) (o r i : Nat) (hi : i ≤ A.length)
    (hk : ∀ H u w, In true H0 H o r A B i 0 → Nx Tryd.call K ks [(28, .bool false), (0, va), (1, vb), (5, .sl o 0 1 (A.length + 1) (some (A.length + 1))), (6, .int .i64 i), (7, u), (28, w)] H) :
    ∀ (n : Nat) (k : Int) (H : AH), k = (n : Int) - 1 → n ≤ B.length + 1 → In true H0 H o r A B i n →
    W Tryd.call K (.block 2 :: ks) [(0, va), (1, vb), (5, .sl o 0 1 (A.length + 1) (some (A.length + 1))), (6, .int .i64 i), (7, .int .i64 k)] H L := by
  intro n
  induction n with
  | zero =>
    intro k H hkn hn hin
    refine W_loopN hL ?_
    simp only [Tryd.fn41_l0, Tryd.fn41_r6, AmR, kp, pushA, exe, Arg.val, Env.at, lk, putd, ok1, okM, abin, Option.getD_some, if_true, if_false, reduceCtorEq, Nat.reduceEqDiff]
    exact ⟨fun h => absurd h (by omega), fun _ => hk _ _ _ hin⟩
  | succ n ih =>
    intro k H hkn hn hin
    obtain rfl : k = (n : Int) := by omega
    refine W_loopN hL ?_
    have h0 : (0 : Int) ≤ (n : Int) := by omega
    have hi0 : (0 : Int) ≤ (i : Int) := by omega
    have d1 : decide ((n : Int) ≥ 0) = true := decide_eq_true h0
    have hg : Grow H0 H := ⟨hin.floor, by have h1 := hin.lowO; have h2 := hin.nextO; omega, hin.old⟩
    have sa : StrS H va A := SliceV.grow hva hg na
    have sb : StrS H vb B := SliceV.grow hvb hg nb
    have la := SliceV.lenS sa
    have lb := SliceV.lenS sb
    obtain ⟨H', st, hin'⟩ := hin.set (by omega)
    have hw : IntKind.i64.wrap ((n : Int) - 1) = (n : Int) - 1 := IntWalk.i64_in _ (by omega)
    have next := ih _ H' rfl (by omega) hin'
    obtain ⟨bo, go, go', -⟩ := hin.row0
    have goH := go H.next H.floor
    rw [AH.eta] at goH
    have li : ((i : Int) < ((A.length + 1 : Nat) : Int)) = True := eq_true (by omega)
    have ln : ((n : Int) < ((B.length + 1 : Nat) : Int)) = True := eq_true (by omega)
    have hcb := cost_bound A B i n
    have go1 : bo.cells[i]? = some (.sl r 0 1 (B.length + 1) (some (B.length + 1))) := go'
    simp only [Tryd.fn41_l0, Tryd.fn41_r6, d1, AmR, kp, pushA, exe, Arg.val, Env.at, lk, putd, ok1, okM, abin, Option.getD_some, if_true, if_false, reduceCtorEq, Nat.reduceEqDiff]
    by_cases e1 : i = A.length
    · have b1 : ((i : Int) == (A.length : Int)) = true := by rw [e1, beq_self_eq_true]
      have hc : costC A B i n = .int .i64 ((B.length - n : Nat) : Int) := by unfold costC; rw [e1, cost_end_left]
      have w1 : IntKind.i64.wrap ((B.length : Int) - (n : Int)) = ((B.length - n : Nat) : Int) := by rw [IntWalk.i64_in _ (by omega)]; omega
      rw [hc] at st
      simp only [Tryd.fn41_r7, la, b1, AmR, kp, pushA, exe, Arg.val, Env.at, lk, putd, ok1, okM, abin, Option.getD_some, if_true, if_false, reduceCtorEq, Nat.reduceEqDiff, Option.map_some, ↓exe_lenl]
      simp only [Tryd.fn41_r8, goH, go1, li, hi0, h0, ln, lb, w1, Int.toNat_natCast, and_self, Nat.zero_add, Nat.mul_one, AmR, kp, exe, Arg.val, Env.at, lk, putd, ok1, okM, abin, Option.getD_some, if_true, if_false, reduceCtorEq, Nat.reduceEqDiff, Option.map_some, ↓exe_lenl]
      simp only [Tryd.fn41_r9, st, AmR, kp, exe, Arg.val, Env.at, lk, putd, AV.cells?, Option.getD_some, if_true, if_false, reduceCtorEq, Nat.reduceEqDiff, Nat.reduceAdd, List.length_cons, List.length_nil, Option.map_some]
      simp only [Tryd.fn41_r16, hw, AmR, kp, exe, Arg.val, Env.at, lk, putd, ok1, okM, abin, Option.getD_some, if_true, if_false, reduceCtorEq, Nat.reduceEqDiff]
      exact next
    · have b1 : ((i : Int) == (A.length : Int)) = false := by rw [beq_eq_false_iff_ne]; omega
      simp only [Tryd.fn41_r7, la, b1, AmR, kp, pushA, exe, Arg.val, Env.at, lk, putd, ok1, okM, abin, Option.getD_some, if_true, if_false, reduceCtorEq, Nat.reduceEqDiff, Option.map_some, ↓exe_lenl]
      by_cases e2 : n = B.length
      · have b2 : ((n : Int) == (B.length : Int)) = true := by rw [e2, beq_self_eq_true]
        have hc : costC A B i n = .int .i64 ((A.length - i : Nat) : Int) := by unfold costC; rw [e2, cost_end_right]
        have w1 : IntKind.i64.wrap ((A.length : Int) - (i : Int)) = ((A.length - i : Nat) : Int) := by rw [IntWalk.i64_in _ (by omega)]; omega
        rw [hc] at st
        simp only [Tryd.fn41_r10, lb, b2, AmR, kp, pushA, exe, Arg.val, Env.at, lk, putd, ok1, okM, abin, Option.getD_some, if_true, if_false, reduceCtorEq, Nat.reduceEqDiff, Option.map_some, ↓exe_lenl]
        simp only [Tryd.fn41_r11, goH, go1, li, hi0, h0, ln, la, w1, Int.toNat_natCast, and_self, Nat.zero_add, Nat.mul_one, AmR, kp, exe, Arg.val, Env.at, lk, putd, ok1, okM, abin, Option.getD_some, if_true, if_false, reduceCtorEq, Nat.reduceEqDiff, Option.map_some, ↓exe_lenl]
        simp only [Tryd.fn41_r12, st, AmR, kp, exe, Arg.val, Env.at, lk, putd, AV.cells?, Option.getD_some, if_true, if_false, reduceCtorEq, Nat.reduceEqDiff, Nat.reduceAdd, List.length_cons, List.length_nil, Option.map_some]
        simp only [Tryd.fn41_r16, hw, AmR, kp, exe, Arg.val, Env.at, lk, putd, ok1, okM, abin, Option.getD_some, if_true, if_false, reduceCtorEq, Nat.reduceEqDiff]
        exact next
      · have b2 : ((n : Int) == (B.length : Int)) = false := by rw [beq_eq_false_iff_ne]; omega
        obtain ⟨x, hx⟩ : ∃ x, A[i]? = some x := ⟨_, List.getElem?_eq_getElem (by omega)⟩
        obtain ⟨y, hy⟩ : ∃ y, B[n]? = some y := ⟨_, List.getElem?_eq_getElem (by omega)⟩
        obtain ⟨qa, oa, ca, ba, rfl, ga, xa⟩ := sa.at hx
        obtain ⟨qb, ob, cb, bb, rfl, gb, xb⟩ := sb.at hy
        obtain ⟨bo', q, g1, q1, row1⟩ := hin.row1 (by omega)
        have ebo : bo' = bo := Option.some.inj ((g1 0 0).symm.trans (go 0 0))
        subst ebo
        obtain ⟨b1q, gq, cq0⟩ := row1.at (j := n) (Nat.zero_le _) (by omega)
        obtain ⟨b1q', gq', cq1⟩ := row1.at (j := n + 1) (Nat.zero_le _) (by omega)
        have ebq : b1q' = b1q := Option.some.inj ((gq' 0 0).symm.trans (gq 0 0))
        subst ebq
        obtain ⟨br, gr, cr1⟩ := hin.row.at (j := n + 1) (Nat.le_refl _) (by omega)
        have hnew := hin.names.new
        have q1' : bo'.cells[i + 1]? = some (.sl q 0 1 (B.length + 1) (some (B.length + 1))) := q1
        have wi : IntKind.i64.wrap ((i : Int) + 1) = ((i + 1 : Nat) : Int) := by rw [IntWalk.i64_in _ (by omega)]; omega
        have wn : IntKind.i64.wrap ((n : Int) + 1) = ((n + 1 : Nat) : Int) := by rw [IntWalk.i64_in _ (by omega)]; omega
        have li1 : (((i + 1 : Nat) : Int) < ((A.length + 1 : Nat) : Int)) = True := eq_true (by omega)
        have ln1 : (((n + 1 : Nat) : Int) < ((B.length + 1 : Nat) : Int)) = True := eq_true (by omega)
        have lia : ((i : Int) < (A.length : Int)) = True := eq_true (by omega)
        have lnb : ((n : Int) < (B.length : Int)) = True := eq_true (by omega)
        have hi1 : (0 : Int) ≤ ((i + 1 : Nat) : Int) := by omega
        have hn1 : (0 : Int) ≤ ((n + 1 : Nat) : Int) := by omega
        simp only [Tryd.fn41_r10, lb, b2, AmR, kp, pushA, exe, Arg.val, Env.at, lk, putd, ok1, okM, abin, Option.getD_some, if_true, if_false, reduceCtorEq, Nat.reduceEqDiff, Option.map_some, ↓exe_lenl]
        refine W_drawn' (by kernel_rfl) ?_
        simp only [Tryd.fn41_r13, Tryd.fn41_r13a, ga, gb, xa, xb, lia, lnb, hi0, h0, hnew, Int.toNat_natCast, and_self, Nat.mul_one, AmR, Cd_beq, kp, pushA, exe, Arg.val, Env.at, lk, putd, ok1, okM, abin, Option.getD_some, if_true, if_false, reduceCtorEq, Nat.reduceEqDiff, Nat.reduceAdd, true_and, List.nil_append, visH, List.filter_nil, List.flatMap_nil, List.contains_cons, List.contains_nil, Bool.or_false]
        refine ⟨fun e => ?_, fun e => ?_⟩
        · subst e
          have hc : costC A B i n = costC A B (i + 1) (n + 1) := by unfold costC; rw [cost_step_eq hx hy]
          rw [hc] at st
          unfold costC at st cq1
          refine W_drawn' (by kernel_rfl) ?_
          simp only [Tryd.fn41_r14, Tryd.fn41_r14a, Tryd.fn41_r14b, go, go1, q1', gq, cq1, li, li1, ln, ln1, hi0, hi1, h0, hn1, wi, wn, hnew, Int.toNat_natCast, and_self, Nat.zero_add, Nat.mul_one, AH.eta, st, AmR, kp, exe, Arg.val, Env.at, lk, putd, AV.cells?, ok1, okM, abin, Option.getD_some, if_true, if_false, reduceCtorEq, Nat.reduceEqDiff, Nat.reduceAdd, true_and, List.nil_append, visH, List.filter_nil, List.flatMap_nil, List.contains_cons, List.contains_nil, Bool.or_false, List.length_cons, List.length_nil, Option.map_some]
          simp only [Tryd.fn41_r16, hw, AmR, kp, exe, Arg.val, Env.at, lk, putd, ok1, okM, abin, Option.getD_some, if_true, if_false, reduceCtorEq, Nat.reduceEqDiff]
          exact next
        · have hc : costC A B i n = .int .i64 ((1 + min (cost (A.drop (i + 1)) (B.drop n)) (cost (A.drop i) (B.drop (n + 1))) : Nat) : Int) := by unfold costC; rw [cost_step_ne hx hy e]
          have hb1 := cost_bound A B (i + 1) n
          have hb2 := cost_bound A B i (n + 1)
          rw [hc] at st
          unfold costC at cq0 cr1
          have mn : (if ((cost (A.drop i) (B.drop (n + 1)) : Nat) : Int) < ((cost (A.drop (i + 1)) (B.drop n) : Nat) : Int) then ((cost (A.drop i) (B.drop (n + 1)) : Nat) : Int) else ((cost (A.drop (i + 1)) (B.drop n) : Nat) : Int)) = ((min (cost (A.drop (i + 1)) (B.drop n)) (cost (A.drop i) (B.drop (n + 1))) : Nat) : Int) := by split <;> omega
          have wm : IntKind.i64.wrap (1 + ((min (cost (A.drop (i + 1)) (B.drop n)) (cost (A.drop i) (B.drop (n + 1))) : Nat) : Int)) = ((1 + min (cost (A.drop (i + 1)) (B.drop n)) (cost (A.drop i) (B.drop (n + 1))) : Nat) : Int) := by rw [IntWalk.i64_in _ (by omega)]; omega
          refine W_drawn' (by kernel_rfl) ?_
          simp only [Tryd.fn41_r15, Tryd.fn41_r15a, Tryd.fn41_r15b, Tryd.fn41_r15c, Tryd.fn41_r15d, go, go1, q1', gq, cq0, gr, cr1, li, li1, ln, ln1, hi0, hi1, h0, hn1, wi, wn, mn, wm, hnew, Int.toNat_natCast, and_self, Nat.zero_add, Nat.mul_one, AH.eta, st, AmR, kp, exe, Arg.val, Env.at, lk, putd, AV.cells?, ok1, okM, abin, Option.getD_some, if_true, if_false, reduceCtorEq, Nat.reduceEqDiff, Nat.reduceAdd, true_and, List.nil_append, visH, List.filter_nil, List.flatMap_nil, List.contains_cons, List.contains_nil, Bool.or_false, List.length_cons, List.length_nil, Option.map_some]
          simp only [Tryd.fn41_r16, hw, AmR, kp, exe, Arg.val, Env.at, lk, putd, ok1, okM, abin, Option.getD_some, if_true, if_false, reduceCtorEq, Nat.reduceEqDiff]
          exact next

end Go.Am
