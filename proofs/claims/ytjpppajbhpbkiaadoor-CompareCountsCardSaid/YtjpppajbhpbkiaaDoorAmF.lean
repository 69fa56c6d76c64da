/-
The shift of two lists of events, by the program, and the change that a match stands for. Conditions: the matches name events.
-/
import Derived.Test.YtjpppajbhpbkiaaDoorAmD
set_option linter.unusedSimpArgs false
set_option linter.unusedVariables false
namespace Go.Am

theorem Tryd.shiftRef (a b : List Ev) (ms : List Mt) (hl : ms.length ≤ 1000000) (hfit : ∀ m ∈ ms, m.fits a b) (va vb vm : AV) (H : AH) (ha : EvS H va a) (hb : EvS H vb b) (hm : MtS H vm ms) : Tryd.call 31 [va, vb, vm] H = some (.ok (.int .i64 (shiftV a b ms)), H) := by
  obtain ⟨w1, w2, w3, bs, kq, hvw, s1, s2, s3, hN, _, _, _, _⟩ := views_three ha hb hm (evs_flat a) (evs_flat b) (mts_flat ms) 4 (rest := []) fun k => views_nil H k
  refine ecall_flat 4 [] _ _ (out := [.int .i64 (shiftV a b ms)]) rfl rfl rfl hvw rfl ?_
  show W Tryd.call _ _ _ _ _
  simp only [Tryd.fn31, Tryd.fn31_r0, Tryd.fn31_r1, AmR, kp, exe, number, Arg.val, Env.at, lk, putd, ok1, Option.getD_some, if_true, if_false, reduceCtorEq, Nat.reduceEqDiff, Nat.reduceAdd, List.append_nil]
  rw [List.append_nil] at s1 s2 s3 hN
  refine Tryd.shiftRefLoop a b ms hl hfit _ _ _ rfl _ hN w1 w2 w3 s1 s2 s3 ms.length 0 (by omega) ?_ ?_
  · intro h0 e
    rw [List.drop_zero] at h0
    simp only [Tryd.fn31_r7, h0, AmR, kp, exe, Arg.val, Env.at, lk, putd, ok1, Option.getD_some, if_true, resAll, resOf]
  · intro e he
    rw [List.drop_zero] at he
    simp only [Rt_code, Rt_nil, flatK_ret, resAll, resOf, he]

theorem Tryd.shiftLoop (a b : List Ev) (ms : List Mt) (hl : ms.length ≤ 1000000) (hfit : ∀ m ∈ ms, m.fits a b) (K : AX → St → Prop) (ks : List Fr) (L : ACode) (hL : L = .loop (some [0, 1, 9, 10, 11]) Tryd.fn27_l0) (H0 : AH) (hf0 : H0.floor ≤ H0.next) (va vb vm : AV) (ha : EvS H0 va a) (hb : EvS H0 vb b) (hm : MtS H0 vm ms) (na : ∀ i o z n c, va = .sl i o z n c → i < H0.next) (nb : ∀ i o z n c, vb = .sl i o z n c → i < H0.next) (nm : ∀ i o z n c, vm = .sl i o z n c → i < H0.next) :
    ∀ (n i : Nat) (H : AH), n + i = ms.length → Grow H0 H → Names H → (shiftV a b (ms.drop i) = 0 → ∀ e H, Nx Tryd.call K ks e H) → (∀ e H, e.at 6 = .int .i64 (shiftV a b (ms.drop i)) → Rt Tryd.call K ks e H) →
    W Tryd.call K (.block 0 :: ks) [(0, va), (1, vb), (9, vm), (10, .int .i64 ms.length), (11, .int .i64 i)] H L := by
  intro n
  induction n with
  | zero =>
    intro i H hi hg hN hk hr
    refine W_loopN hL ?_
    have hi' : i = ms.length := by omega
    subst hi'
    simp only [Tryd.fn27_l0, Tryd.fn27_r2, AmR, kp, pushA, exe, Arg.val, Env.at, lk, putd, okM, abin, Option.getD_some, if_true, if_false, reduceCtorEq, Nat.reduceEqDiff]
    refine ⟨fun h => absurd h (by omega), fun _ => hk (by rw [List.drop_length]; rfl) _ _⟩
  | succ n ih =>
    intro i H hi hg hN hk hr
    refine W_loopN hL ?_
    obtain ⟨m, hx⟩ : ∃ x, ms[i]? = some x := ⟨_, List.getElem?_eq_getElem (by omega)⟩
    have hil : i < ms.length := by omega
    have hd : ms.drop i = m :: ms.drop (i + 1) := by
      rw [List.drop_eq_getElem_cons hil]
      rw [List.getElem?_eq_getElem hil, Option.some.injEq] at hx
      rw [hx]
    have hmm : m ∈ ms := by
      rw [List.getElem?_eq_getElem hil, Option.some.injEq] at hx
      rw [← hx]; exact List.getElem_mem hil
    have hft := hfit m hmm
    have h0 : (0 : Int) ≤ (i : Int) := by omega
    have h1 : ((i : Int) < (ms.length : Int)) = True := eq_true (by omega)
    have hw : IntKind.i64.wrap ((i : Int) + 1) = ((i + 1 : Nat) : Int) := by rw [IntWalk.i64_in _ (by omega)]; omega
    have hfl : H.floor ≤ H.next := by have := hg.1; have := hg.2.1; omega
    have ha1 := ha.grow hg na
    have hb1 := hb.grow hg nb
    have hm1 := SliceV.grow hm hg nm
    have hg1 : Grow H0 (H.push 56 true m.cells) := hg.trans (Grow.push _ _ _ _)
    have hN1 : Names (H.push 56 true m.cells) := hN.push _ _ _
    have st := store_push H 56 true [.int .i64 0, .int .i64 0] m.cells hfl rfl rfl
    have gn := get_push_new H 56 true m.cells
    have next : ¬ (0 ≤ m.l ∧ 0 ≤ m.r) → W Tryd.call K (.block 0 :: ks) [(0, va), (1, vb), (9, vm), (10, .int .i64 ms.length), (11, .int .i64 ((i + 1 : Nat) : Int))] (H.push 56 true m.cells) L := fun hne => by
      have e : shiftV a b (ms.drop i) = shiftV a b (ms.drop (i + 1)) := by rw [hd, shiftV, if_neg hne]
      exact ih (i + 1) _ (by omega) hg1 hN1 (by rw [← e]; exact hk) (by rw [← e]; exact hr)
    rcases hm1.cases with ⟨rfl, h, _⟩ | ⟨rfl, h, _⟩ | ⟨q, o, c, bm, rfl, hbm, hlm, hcm⟩
    · omega
    · omega
    · have cm : H.cellsAt q (o + i * 2) 2 = some m.cells := cellsAt_rowO Mt.cells_len hbm hlm hcm hx
      have l2 := Mt.cells_len m
      have c0 : m.cells[0]? = some (.int .i64 m.l) := rfl
      have c1 : m.cells[1]? = some (.int .i64 m.r) := rfl
      simp only [Tryd.fn27_l0, Tryd.fn27_r2, h1, AmR, kp, pushA, exe, Arg.val, Env.at, lk, putd, okM, abin, Option.getD_some, if_true, if_false, reduceCtorEq, Nat.reduceEqDiff, decide_true]
      simp only [Tryd.fn27_r3, h0, h1, Int.toNat_natCast, and_self, cm, l2, st, AmR, kp, exe, Arg.val, Env.at, lk, putd, AV.cells?, ok1, okM, Option.getD_some, if_true, if_false, reduceCtorEq, Nat.reduceEqDiff, Option.map_some]
      simp only [Tryd.fn27_r4, gn, c0, AmR, kp, pushA, exe, Arg.val, Env.at, lk, putd, ok1, okM, abin, Option.getD_some, if_true, if_false, reduceCtorEq, Nat.reduceEqDiff, Nat.reduceAdd, Bool.false_eq_true]
      refine ⟨fun hml => ?_, fun hml => ?_⟩
      · simp only [c1, AmR, kp, pushA, exe, Arg.val, Env.at, lk, putd, ok1, okM, abin, Option.getD_some, if_true, if_false, reduceCtorEq, Nat.reduceEqDiff]
        refine ⟨fun hmr => ?_, fun hmr => ?_⟩
        · have hlr := hft.1 (by omega)
          have hrr := hft.2 (by omega)
          have ha2 := ha.grow hg1 na
          have hb2 := hb.grow hg1 nb
          rcases ha2.cases with ⟨rfl, h, _⟩ | ⟨rfl, h, _⟩ | ⟨qa, oa, ca, ba, rfl, hba, hla, hca⟩
          · omega
          · omega
          rcases hb2.cases with ⟨rfl, h, _⟩ | ⟨rfl, h, _⟩ | ⟨qb, ob, cb, bb, rfl, hbb, hlb, hcb⟩
          · omega
          · omega
          obtain ⟨x, hxa⟩ : ∃ x, a[m.l.toNat]? = some x := ⟨_, List.getElem?_eq_getElem hlr⟩
          obtain ⟨y, hyb⟩ : ∃ x, b[m.r.toNat]? = some x := ⟨_, List.getElem?_eq_getElem hrr⟩
          have a1 : ba.cells[oa + m.l.toNat * 7 + 1]? = some (.int .i64 x.f) := by rw [cell_rowO Ev.cells_len hca hxa (by omega)]; rfl
          have b1 : bb.cells[ob + m.r.toNat * 7 + 1]? = some (.int .i64 y.f) := by rw [cell_rowO Ev.cells_len hcb hyb (by omega)]; rfl
          have hnew := hN1.new
          generalize hHH : H.push 56 true m.cells = HH at *
          have ga : ∀ nx fl, (AH.mk HH.blks nx fl).get qa = some ba := fun _ _ => hba
          have gb : ∀ nx fl, (AH.mk HH.blks nx fl).get qb = some bb := fun _ _ => hbb
          have gm : ∀ nx fl, (AH.mk HH.blks nx fl).get H.next = some ⟨m.cells, false, 56, true, true⟩ := fun _ _ => gn
          have c1' : (0 : Int) ≤ m.l ∧ m.l < (a.length : Int) := by omega
          have c2' : (0 : Int) ≤ m.r ∧ m.r < (b.length : Int) := by omega
          have e : shiftV a b (ms.drop i) = IntKind.i64.wrap (y.f - x.f) := by
            rw [hd, shiftV, if_pos ⟨c1'.1, c2'.1⟩, fAt, fAt, hxa, hyb]; rfl
          refine W_drawn' (by kernel_rfl) ?_
          simp only [Tryd.fn27_r5, Tryd.fn27_r5a, Tryd.fn27_r5b, c1'.1, c1'.2, c2'.1, c2'.2, and_self, ga, gb, gm, c0, c1, a1, b1, hnew, Nat.add_zero, Nat.zero_add, AmR, kp, exe, Arg.val, Env.at, lk, putd, ok1, okM, abin, Option.getD_some, if_true, if_false, reduceCtorEq, Nat.reduceEqDiff, Nat.reduceAdd, decide_true, true_and, List.nil_append, visH, List.filter_nil, List.flatMap_nil, List.contains_cons, List.contains_nil, Bool.or_false]
          refine hr _ _ ?_
          rw [e]; rfl
        · simp only [Tryd.fn27_r6, hw, AmR, kp, exe, Arg.val, Env.at, lk, putd, ok1, okM, abin, Option.getD_some, if_true, if_false, reduceCtorEq, Nat.reduceEqDiff]
          exact next (by omega)
      · simp only [Tryd.fn27_r6, hw, AmR, kp, exe, Arg.val, Env.at, lk, putd, ok1, okM, abin, Option.getD_some, if_true, if_false, reduceCtorEq, Nat.reduceEqDiff]
        exact next (by omega)

theorem Tryd.shift (a b : List Ev) (ms : List Mt) (hl : ms.length ≤ 1000000) (hfit : ∀ m ∈ ms, m.fits a b) (va vb vm : AV) (H : AH) (ha : EvS H va a) (hb : EvS H vb b) (hm : MtS H vm ms) : Tryd.call 27 [va, vb, vm] H = some (.ok (.int .i64 (shiftV a b ms)), H) := by
  obtain ⟨w1, w2, w3, bs, kq, hvw, s1, s2, s3, hN, _, n1, n2, n3⟩ := views_three ha hb hm (evs_flat a) (evs_flat b) (mts_flat ms) 4 (rest := []) fun k => views_nil H k
  refine ecall_flat 4 [] _ _ (out := [.int .i64 (shiftV a b ms)]) rfl rfl rfl hvw rfl ?_
  show W Tryd.call _ _ _ _ _
  have e3 := s3.lenS
  simp only [Tryd.fn27, Tryd.fn27_r0, Tryd.fn27_r1, e3, AmR, kp, exe, number, Arg.val, Env.at, lk, putd, ok1, okM, Option.getD_some, if_true, if_false, reduceCtorEq, Nat.reduceEqDiff, Nat.reduceAdd, List.append_nil, Option.map_some, ↓exe_lenl]
  rw [List.append_nil] at s1 s2 s3 hN
  refine Tryd.shiftLoop a b ms hl hfit _ _ _ rfl ⟨bs, kq, kq⟩ (Nat.le_refl _) w1 w2 w3 s1 s2 s3 n1 n2 n3 ms.length 0 _ (by omega) (Grow.refl _) hN ?_ ?_
  · intro h0 e H
    rw [List.drop_zero] at h0
    simp only [Tryd.fn27_r7, h0, AmR, kp, exe, Arg.val, Env.at, lk, putd, ok1, Option.getD_some, if_true, resAll, resOf]
  · intro e H he
    rw [List.drop_zero] at he
    simp only [Rt_code, Rt_nil, flatK_ret, resAll, resOf, he]

end Go.Am
