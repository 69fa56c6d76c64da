/-
The numbers of the changes (counts). Conditions: the changes are those of two lists of events.
-/
import Derived.Test.YtjpppajbhpbkiaaDoorAmAA
set_option linter.unusedSimpArgs false
set_option linter.unusedVariables false
namespace Go.Am

theorem cnt_step {n : Int} {l : List Ch} {i : Nat} {c : Ch} (h : l[i]? = some c) : cnt n (l.take (i + 1)) = cnt n (l.take i) + (if c.k = n then 1 else 0) := by
  unfold cnt
  rw [List.take_add_one, h, Option.toList_some, List.countP_append, List.countP_cons, List.countP_nil, Nat.zero_add]
  by_cases e : c.k = n
  · rw [if_pos e, if_pos (by rw [e]; exact beq_self_eq_true n)]
  · rw [if_neg e, if_neg (by rw [beq_iff_eq]; exact e)]

theorem cnt_le (n : Int) (l : List Ch) : cnt n l ≤ l.length := List.countP_le_length

theorem Tryd.countsLoop (a b : List Ev) (l : List Ch) (hla : a.length ≤ 512) (hlb : b.length ≤ 512) (hl : l.length ≤ 1000000) (hok : ∀ c ∈ l, okCh a b c) (va vb vl : AV) (K : AX → St → Prop) (ks : List Fr) (L : ACode) (hL : L = .loop (some [0, 1, 2, 10, 11, 12, 13]) Tryd.fn16_l0) (H0 : AH) (hf0 : H0.floor ≤ H0.next) (ha : EvS H0 va a) (hb : EvS H0 vb b) (hv : ChS H0 vl l)
    (na : ∀ i o z n c, va = .sl i o z n c → i < H0.next) (nb : ∀ i o z n c, vb = .sl i o z n c → i < H0.next) (nl : ∀ i o z n c, vl = .sl i o z n c → i < H0.next)
    (hk : ∀ H w, Nx Tryd.call K ks [(18, .bool false), (0, va), (1, vb), (2, vl), (10, .int .i64 ((cnt 1 l : Nat) : Int)), (11, .int .i64 ((cnt 2 l : Nat) : Int)), (12, .int .i64 ((cnt 3 l : Nat) : Int)), (13, .int .i64 l.length), (18, w)] H) :
    ∀ (n i : Nat) (H : AH), n + i = l.length → Grow H0 H → Names H →
    W Tryd.call K (.block 0 :: ks) [(0, va), (1, vb), (2, vl), (10, .int .i64 ((cnt 1 (l.take i) : Nat) : Int)), (11, .int .i64 ((cnt 2 (l.take i) : Nat) : Int)), (12, .int .i64 ((cnt 3 (l.take i) : Nat) : Int)), (13, .int .i64 i)] H L := by
  intro n
  induction n with
  | zero =>
    intro i H hi hg hN
    refine W_loopN hL ?_
    obtain rfl : i = l.length := by omega
    have ll := SliceV.lenS (SliceV.grow hv hg nl)
    rw [List.take_length]
    simp only [Tryd.fn16_l0, Tryd.fn16_r3, ll, AmR, kp, pushA, exe, Arg.val, Env.at, lk, putd, ok1, okM, abin, Option.getD_some, if_true, if_false, reduceCtorEq, Nat.reduceEqDiff, Option.map_some, ↓exe_lenl]
    exact ⟨fun h => absurd h (by omega), fun _ => hk _ _⟩
  | succ n ih =>
    intro i H hi hg hN
    refine W_loopN hL ?_
    obtain ⟨c, hx⟩ : ∃ x, l[i]? = some x := ⟨_, List.getElem?_eq_getElem (by omega)⟩
    have hc := hok c (List.mem_of_getElem? hx)
    have h0 : (0 : Int) ≤ (i : Int) := by omega
    have h1 : ((i : Int) < (l.length : Int)) = True := eq_true (by omega)
    have hw : IntKind.i64.wrap ((i : Int) + 1) = ((i + 1 : Nat) : Int) := by rw [IntWalk.i64_in _ (by omega)]; omega
    have hfl : H.floor ≤ H.next := by have := hg.1; have := hg.2.1; omega
    have sv := SliceV.grow hv hg nl
    have ll := SliceV.lenS sv
    have hg1 : Grow H0 (H.push 48 true c.cells) := hg.trans (Grow.push _ _ _ _)
    have hN1 := hN.push 48 true c.cells
    have st := store_push H 48 true [.int .i64 0, .int .i64 0, .int .i64 0] c.cells hfl rfl rfl
    have gn := get_push_new H 48 true c.cells
    have c0 : c.cells[0]? = some (.int .i64 c.k) := rfl
    have c1 : c.cells[1]? = some (.int .i64 c.l) := rfl
    have c2 : c.cells[2]? = some (.int .i64 c.r) := rfl
    have l3 := Ch.cells_len c
    have t1 := cnt_step (n := 1) hx
    have t2 := cnt_step (n := 2) hx
    have t3 := cnt_step (n := 3) hx
    have b1 : cnt 1 (l.take i) ≤ 1000000 := by have := cnt_le 1 (l.take i); rw [List.length_take] at this; omega
    have b2 : cnt 2 (l.take i) ≤ 1000000 := by have := cnt_le 2 (l.take i); rw [List.length_take] at this; omega
    have b3 : cnt 3 (l.take i) ≤ 1000000 := by have := cnt_le 3 (l.take i); rw [List.length_take] at this; omega
    have next := ih (i + 1) _ (by omega) hg1 hN1
    have sa := SliceV.grow ha hg1 na
    have sb := SliceV.grow hb hg1 nb
    have la := SliceV.lenS sa
    have lb := SliceV.lenS sb
    rcases sv.cases with ⟨rfl, h, _⟩ | ⟨rfl, h, _⟩ | ⟨q, o, cc, bm, rfl, hbm, hlm, hcm⟩
    · omega
    · omega
    have cm : H.cellsAt q (o + i * 3) 3 = some c.cells := cellsAt_rowO Ch.cells_len hbm hlm hcm hx
    simp only [Tryd.fn16_l0, Tryd.fn16_r3, ll, h1, AmR, kp, pushA, exe, Arg.val, Env.at, lk, putd, ok1, okM, abin, Option.getD_some, if_true, if_false, reduceCtorEq, Nat.reduceEqDiff, decide_true, Option.map_some, ↓exe_lenl]
    simp only [Tryd.fn16_r4, h0, h1, Int.toNat_natCast, and_self, cm, l3, st, AmR, kp, exe, Arg.val, Env.at, lk, putd, AV.cells?, ok1, okM, Option.getD_some, if_true, if_false, reduceCtorEq, Nat.reduceEqDiff, Option.map_some]
    rcases hc with ⟨k1, k2, k3, k4⟩ | ⟨k1, k2, k3, k4⟩ | ⟨k1, k2, k3, x, y, k4, k5, k6⟩
    · rw [k1] at t1 t2 t3
      rw [if_pos rfl] at t1
      rw [if_neg (by decide), Nat.add_zero] at t2 t3
      rw [t1, t2, t3] at next
      have w1 : IntKind.i64.wrap (((cnt 1 (l.take i) : Nat) : Int) + 1) = ((cnt 1 (l.take i) + 1 : Nat) : Int) := by rw [IntWalk.i64_in _ (by omega)]; omega
      have d1 : (c.k == 1) = true := by rw [k1]; rfl
      have d2 : decide (c.l ≥ 0) = true := decide_eq_true k2
      have d3 : decide (c.l < (a.length : Int)) = true := decide_eq_true (by omega)
      have d4 : (c.r == -1) = true := by rw [k4]; rfl
      simp only [Tryd.fn16_r5, gn, c0, c1, d1, d2, Nat.zero_add, AmR, kp, exe, Arg.val, Env.at, lk, putd, ok1, okM, abin, Option.getD_some, if_true, if_false, reduceCtorEq, Nat.reduceEqDiff]
      simp only [Tryd.fn16_r6, gn, c1, c2, la, d3, d4, Nat.zero_add, AmR, kp, pushA, exe, Arg.val, Env.at, lk, putd, ok1, okM, abin, Option.getD_some, if_true, if_false, reduceCtorEq, Nat.reduceEqDiff, Option.map_some, Int.reduceNeg, ↓exe_lenl]
      simp only [Tryd.fn16_r7, w1, AmR, kp, exe, Arg.val, Env.at, lk, putd, ok1, okM, abin, Option.getD_some, if_true, if_false, reduceCtorEq, Nat.reduceEqDiff]
      simp only [Tryd.fn16_r18, hw, AmR, kp, exe, Arg.val, Env.at, lk, putd, ok1, okM, abin, Option.getD_some, if_true, if_false, reduceCtorEq, Nat.reduceEqDiff]
      exact next
    · rw [k1] at t1 t2 t3
      rw [if_pos rfl] at t2
      rw [if_neg (by decide), Nat.add_zero] at t1 t3
      rw [t1, t2, t3] at next
      have w1 : IntKind.i64.wrap (((cnt 2 (l.take i) : Nat) : Int) + 1) = ((cnt 2 (l.take i) + 1 : Nat) : Int) := by rw [IntWalk.i64_in _ (by omega)]; omega
      have d1 : (c.k == 1) = false := by rw [k1]; rfl
      have d1' : (c.k == 2) = true := by rw [k1]; rfl
      have d2 : (c.l == -1) = true := by rw [k2]; rfl
      have d3 : decide (c.r ≥ 0) = true := decide_eq_true k3
      have d4 : decide (c.r < (b.length : Int)) = true := decide_eq_true (by omega)
      simp only [Tryd.fn16_r5, gn, c0, d1, Nat.zero_add, AmR, kp, exe, Arg.val, Env.at, lk, putd, ok1, okM, abin, Option.getD_some, if_true, if_false, reduceCtorEq, Nat.reduceEqDiff, Bool.false_eq_true]
      simp only [Tryd.fn16_r6, AmR, kp, pushA, exe, Arg.val, Env.at, lk, putd, ok1, Option.getD_some, if_true, if_false, reduceCtorEq, Nat.reduceEqDiff, Bool.false_eq_true, Int.reduceNeg]
      simp only [Tryd.fn16_r8, gn, c0, c1, d1', d2, Nat.zero_add, AmR, kp, exe, Arg.val, Env.at, lk, putd, ok1, okM, abin, Option.getD_some, if_true, if_false, reduceCtorEq, Nat.reduceEqDiff, Int.reduceNeg]
      simp only [Tryd.fn16_r9, gn, c2, lb, d3, d4, Nat.zero_add, AmR, kp, pushA, exe, Arg.val, Env.at, lk, putd, ok1, okM, abin, Option.getD_some, if_true, if_false, reduceCtorEq, Nat.reduceEqDiff, Option.map_some, ↓exe_lenl]
      simp only [Tryd.fn16_r10, w1, AmR, kp, exe, Arg.val, Env.at, lk, putd, ok1, okM, abin, Option.getD_some, if_true, if_false, reduceCtorEq, Nat.reduceEqDiff]
      simp only [Tryd.fn16_r18, hw, AmR, kp, exe, Arg.val, Env.at, lk, putd, ok1, okM, abin, Option.getD_some, if_true, if_false, reduceCtorEq, Nat.reduceEqDiff]
      exact next
    · rw [k1] at t1 t2 t3
      rw [if_pos rfl] at t3
      rw [if_neg (by decide), Nat.add_zero] at t1 t2
      rw [t1, t2, t3] at next
      have w1 : IntKind.i64.wrap (((cnt 3 (l.take i) : Nat) : Int) + 1) = ((cnt 3 (l.take i) + 1 : Nat) : Int) := by rw [IntWalk.i64_in _ (by omega)]; omega
      have xl : c.l.toNat < a.length := by
        by_cases h : c.l.toNat < a.length
        · exact h
        · rw [List.getElem?_eq_none (by omega)] at k4; cases k4
      have yl : c.r.toNat < b.length := by
        by_cases h : c.r.toNat < b.length
        · exact h
        · rw [List.getElem?_eq_none (by omega)] at k5; cases k5
      have d1 : (c.k == 1) = false := by rw [k1]; rfl
      have d1' : (c.k == 2) = false := by rw [k1]; rfl
      have d1'' : (c.k == 3) = true := by rw [k1]; rfl
      have d2 : decide (c.l ≥ 0) = true := decide_eq_true k2
      have d3 : decide (c.l < (a.length : Int)) = true := decide_eq_true (by omega)
      have d4 : decide (c.r ≥ 0) = true := decide_eq_true k3
      have d5 : decide (c.r < (b.length : Int)) = true := decide_eq_true (by omega)
      have e2 : (0 : Int) ≤ c.l ∧ c.l < (a.length : Int) := by omega
      have e3 : (0 : Int) ≤ c.r ∧ c.r < (b.length : Int) := by omega
      rcases sa.cases with ⟨rfl, h, _⟩ | ⟨rfl, h, _⟩ | ⟨qa, oa, ca, ba, rfl, hba, hla', hca⟩
      · omega
      · omega
      rcases sb.cases with ⟨rfl, h, _⟩ | ⟨rfl, h, _⟩ | ⟨qb, ob, cb, bb, rfl, hbb, hlb', hcb⟩
      · omega
      · omega
      have hnew := hN1.new
      have kx : ∀ H, Tryd.call 7 [.agg x.cells] H = some (.ok (.str (keyL x)), H) := Tryd.key x
      have ky : ∀ H, Tryd.call 7 [.agg y.cells] H = some (.ok (.str (keyL x)), H) := fun H => by rw [k6]; exact Tryd.key y H
      simp only [Tryd.fn16_r5, gn, c0, d1, Nat.zero_add, AmR, kp, exe, Arg.val, Env.at, lk, putd, ok1, okM, abin, Option.getD_some, if_true, if_false, reduceCtorEq, Nat.reduceEqDiff, Bool.false_eq_true]
      simp only [Tryd.fn16_r6, AmR, kp, pushA, exe, Arg.val, Env.at, lk, putd, ok1, Option.getD_some, if_true, if_false, reduceCtorEq, Nat.reduceEqDiff, Bool.false_eq_true, Int.reduceNeg]
      simp only [Tryd.fn16_r8, gn, c0, d1', Nat.zero_add, AmR, kp, exe, Arg.val, Env.at, lk, putd, ok1, okM, abin, Option.getD_some, if_true, if_false, reduceCtorEq, Nat.reduceEqDiff, Bool.false_eq_true, Int.reduceNeg]
      simp only [Tryd.fn16_r9, AmR, kp, pushA, exe, Arg.val, Env.at, lk, putd, ok1, Option.getD_some, if_true, if_false, reduceCtorEq, Nat.reduceEqDiff, Bool.false_eq_true]
      simp only [Tryd.fn16_r11, gn, c0, c1, d1'', d2, Nat.zero_add, AmR, kp, exe, Arg.val, Env.at, lk, putd, ok1, okM, abin, Option.getD_some, if_true, if_false, reduceCtorEq, Nat.reduceEqDiff]
      simp only [Tryd.fn16_r12, gn, c1, c2, la, d3, d4, Nat.zero_add, AmR, kp, exe, Arg.val, Env.at, lk, putd, ok1, okM, abin, Option.getD_some, if_true, if_false, reduceCtorEq, Nat.reduceEqDiff, Option.map_some, ↓exe_lenl]
      simp only [Tryd.fn16_r13, gn, c2, lb, d5, Nat.zero_add, AmR, kp, pushA, exe, Arg.val, Env.at, lk, putd, ok1, okM, abin, Option.getD_some, if_true, if_false, reduceCtorEq, Nat.reduceEqDiff, Option.map_some, ↓exe_lenl]
      generalize H.push 48 true c.cells = G at *
      have gp : ∀ nx fl, (AH.mk G.blks nx fl).get H.next = some ⟨c.cells, false, 48, true, true⟩ := fun _ _ => gn
      have ax : ∀ nx fl, (AH.mk G.blks nx fl).cellsAt qa (oa + c.l.toNat * 7) 7 = some x.cells := fun nx fl => cellsAt_rowO (H := ⟨G.blks, nx, fl⟩) Ev.cells_len hba hla' hca k4
      have bx : ∀ nx fl, (AH.mk G.blks nx fl).cellsAt qb (ob + c.r.toNat * 7) 7 = some y.cells := fun nx fl => cellsAt_rowO (H := ⟨G.blks, nx, fl⟩) Ev.cells_len hbb hlb' hcb k5
      refine W_drawn' (by kernel_rfl) ?_
      simp only [Tryd.fn16_r14, Tryd.fn16_r14a, Tryd.fn16_r14b, gp, c1, c2, e2.1, e2.2, e3.1, e3.2, and_self, ax, bx, kx, ky, hnew, AH.eta, beq_self_eq_true, Nat.zero_add, AmR, kp, pushA, exe, Arg.val, Env.at, lk, putd, ok1, okM, abin, Option.getD_some, if_true, if_false, Bool.not_true, reduceCtorEq, Nat.reduceEqDiff, Nat.reduceAdd, true_and, List.nil_append, visH, List.filter_nil, List.flatMap_nil, List.contains_cons, List.contains_nil, Bool.or_false, List.map_cons, List.map_nil, Option.map_some]
      simp only [Tryd.fn16_r16, w1, AmR, kp, exe, Arg.val, Env.at, lk, putd, ok1, okM, abin, Option.getD_some, if_true, if_false, reduceCtorEq, Nat.reduceEqDiff]
      simp only [Tryd.fn16_r18, hw, AmR, kp, exe, Arg.val, Env.at, lk, putd, ok1, okM, abin, Option.getD_some, if_true, if_false, reduceCtorEq, Nat.reduceEqDiff]
      exact next

theorem Tryd.counts (a b : List Ev) (l : List Ch) (hla : a.length ≤ 512) (hlb : b.length ≤ 512) (hl : l.length ≤ 1000000) (hok : ∀ c ∈ l, okCh a b c) (va vb vl : AV) (H : AH) (ha : EvS H va a) (hb : EvS H vb b) (hv : ChS H vl l) :
    Tryd.call 16 [va, vb, vl] H = some (.ok (.tup [.int .i64 ((cnt 1 l : Nat) : Int), .int .i64 ((cnt 2 l : Nat) : Int), .int .i64 ((cnt 3 l : Nat) : Int), .bool true]), H) := by
  obtain ⟨w1, w2, w3, bs, kq, hvw, s1, s2, s3, hN, _, n1, n2, n3⟩ := views_three ha hb hv (evs_flat a) (evs_flat b) (chs_flat l) 4 (rest := []) fun k => views_nil H k
  refine ecall_flat 4 [] _ _ (out := [.int .i64 ((cnt 1 l : Nat) : Int), .int .i64 ((cnt 2 l : Nat) : Int), .int .i64 ((cnt 3 l : Nat) : Int), .bool true]) rfl rfl rfl hvw rfl ?_
  show W Tryd.call _ _ _ _ _
  generalize hH : (⟨bs ++ [], kq, kq⟩ : AH) = H0 at s1 s2 s3 hN ⊢
  have hn : H0.next = kq := by rw [← hH]
  have hfl : H0.floor ≤ H0.next := by rw [← hH]; exact Nat.le_refl _
  subst hn
  simp only [Tryd.fn16, Tryd.fn16_r0, Tryd.fn16_r1, Tryd.fn16_r2, AmR, kp, exe, number, Arg.val, Env.at, lk, putd, ok1, Option.getD_some, if_true, if_false, reduceCtorEq, Nat.reduceEqDiff, Nat.reduceAdd]
  refine Tryd.countsLoop a b l hla hlb hl hok w1 w2 w3 _ _ _ rfl H0 hfl s1 s2 s3 n1 n2 n3 ?_ l.length 0 H0 (by omega) (Grow.refl _) hN
  intro H' u
  simp only [Tryd.fn16_r19, AmR, kp, exe, Arg.val, Env.at, lk, putd, ok1, Option.getD_some, if_true, if_false, reduceCtorEq, Nat.reduceEqDiff, resAll, resOf]

end Go.Am
