/-
Diff of the specification. Conditions: the lists are short.
-/
import Derived.Test.YtjpppajbhpbkiaaDoorAmS
set_option linter.unusedSimpArgs false
set_option linter.unusedVariables false
namespace Go.Am

theorem Tryd.diffRefLoop (a b : List Ev) (ms : List Mt) (sh tol : Int) (hl : ms.length ≤ 1000000) (hfit : ∀ m ∈ ms, m.fits a b) (K : AX → St → Prop) (ks : List Fr) (L : ACode) (hL : L = .loop (some [0, 1, 2, 12, 14, 15, 16]) Tryd.fn11_l0) (H1 : AH) (va vb vm : AV) (ha : EvS H1 va a) (hb : EvS H1 vb b) (hm : MtS H1 vm ms) (na : ∀ i o z n c, va = .sl i o z n c → i < H1.next) (nb : ∀ i o z n c, vb = .sl i o z n c → i < H1.next) (nm : ∀ i o z n c, vm = .sl i o z n c → i < H1.next)
    (hk : ∀ H v w, DW H1 H v (diffL a b sh tol ms) → Nx Tryd.call K ks [(56, .bool false), (0, va), (1, vb), (2, .int .i64 tol), (12, vm), (14, .int .i64 sh), (15, v), (16, .int .i64 ms.length), (56, w)] H) :
    ∀ (n i : Nat) (H : AH) (v : AV), n + i = ms.length → DW H1 H v (diffL a b sh tol (ms.take i)) →
    W Tryd.call K (.block 0 :: ks) [(0, va), (1, vb), (2, .int .i64 tol), (12, vm), (14, .int .i64 sh), (15, v), (16, .int .i64 i)] H L := by
  intro n
  induction n with
  | zero =>
    intro i H v hi hd
    refine W_loopN hL ?_
    have hi' : i = ms.length := by omega
    subst hi'
    rw [List.take_length] at hd
    have lm := SliceV.lenS (SliceV.grow hm hd.grow nm)
    simp only [Tryd.fn11_l0, Tryd.fn11_r11, lm, AmR, kp, pushA, exe, Arg.val, Env.at, lk, putd, ok1, okM, abin, Option.getD_some, if_true, if_false, reduceCtorEq, Nat.reduceEqDiff, Option.map_some, ↓exe_lenl]
    exact ⟨fun h => absurd h (by omega), fun _ => hk _ _ _ hd⟩
  | succ n ih =>
    intro i H v hi hd
    refine W_loopN hL ?_
    obtain ⟨m, hx⟩ : ∃ x, ms[i]? = some x := ⟨_, List.getElem?_eq_getElem (by omega)⟩
    have hft := hfit m (List.mem_of_getElem? hx)
    have h0 : (0 : Int) ≤ (i : Int) := by omega
    have h1 : ((i : Int) < (ms.length : Int)) = True := eq_true (by omega)
    have hw : IntKind.i64.wrap ((i : Int) + 1) = ((i + 1 : Nat) : Int) := by rw [IntWalk.i64_in _ (by omega)]; omega
    have hstep := diff_step (a := a) (b := b) (sh := sh) (tol := tol) hx
    have hlen : (diffL a b sh tol (ms.take i)).length ≤ 1000000 := by have := diff_len a b sh tol (ms.take i); rw [List.length_take] at this; omega
    have hm1 := SliceV.grow hm hd.grow nm
    have lm := SliceV.lenS hm1
    have st := store_push H 56 true [.int .i64 0, .int .i64 0] m.cells hd.fl rfl rfl
    have d1 := hd.push 56 m.cells
    have gn := get_push_new H 56 true m.cells
    have c0 : m.cells[0]? = some (.int .i64 m.l) := rfl
    have c1 : m.cells[1]? = some (.int .i64 m.r) := rfl
    have add : ∀ c : Ch, changeV a b m sh tol = c → c.k ≠ 0 → ∃ v' H', aapp ((H.push 56 true m.cells).push 48 true [.int .i64 c.k, .int .i64 c.l, .int .i64 c.r]) 48 3 24 v [.int .i64 c.k, .int .i64 c.l, .int .i64 c.r] = some (.ok v', H') ∧
        W Tryd.call K (.block 0 :: ks) [(0, va), (1, vb), (2, .int .i64 tol), (12, vm), (14, .int .i64 sh), (15, v'), (16, .int .i64 ((i + 1 : Nat) : Int))] H' L := fun c hc hk0 => by
      obtain ⟨v', H', e1, e2⟩ := d1.add c hlen
      rw [hc, if_neg hk0] at hstep
      exact ⟨v', H', e1, ih (i + 1) H' v' (by omega) (by rw [hstep]; exact e2)⟩
    have cl : ∀ x y z : AV, ((H.push 56 true m.cells).push 48 true [x, y, z]).cellsAt (H.push 56 true m.cells).next 0 3 = some [x, y, z] := fun x y z => cellsAt_new _ _ _ _ rfl
    have s1' := SliceV.grow ha d1.grow na
    have s2' := SliceV.grow hb d1.grow nb
    rcases hm1.cases with ⟨rfl, h, _⟩ | ⟨rfl, h, _⟩ | ⟨q, o, cc, bm, rfl, hbm, hlm, hcm⟩
    · omega
    · omega
    · have cm : H.cellsAt q (o + i * 2) 2 = some m.cells := cellsAt_rowO Mt.cells_len hbm hlm hcm hx
      have l2 := Mt.cells_len m
      simp only [Tryd.fn11_l0, Tryd.fn11_r11, lm, h1, AmR, kp, pushA, exe, Arg.val, Env.at, lk, putd, ok1, okM, abin, Option.getD_some, if_true, if_false, reduceCtorEq, Nat.reduceEqDiff, decide_true, Option.map_some, ↓exe_lenl]
      simp only [Tryd.fn11_r12, h0, h1, Int.toNat_natCast, and_self, cm, l2, st, AmR, kp, exe, Arg.val, Env.at, lk, putd, AV.cells?, ok1, okM, Option.getD_some, if_true, if_false, reduceCtorEq, Nat.reduceEqDiff, Option.map_some]
      simp only [Tryd.fn11_r13, gn, c1, Nat.zero_add, AmR, kp, pushA, exe, Arg.val, Env.at, lk, putd, ok1, okM, abin, Option.getD_some, if_true, if_false, reduceCtorEq, Nat.reduceEqDiff]
      refine ⟨fun hr => ?_, fun hr => ?_⟩
      · obtain ⟨v', H', e1, e2⟩ := add ⟨1, m.l, -1⟩ (by unfold changeV; rw [if_pos hr]) (by simp)
        simp only at e1
        simp only [Tryd.fn11_r14, gn, c0, cl, takeFrom, e1, AmR, kp, exe, Arg.val, Env.at, lk, putd, AV.cells?, ok1, okM, Option.getD_some, if_true, if_false, reduceCtorEq, Nat.reduceEqDiff, Nat.reduceAdd, Nat.reduceMul, Bool.true_eq_false, and_true, List.append_nil, Nat.reduceLeDiff, List.map_cons, List.map_nil, putAt, solid, List.all_cons, List.all_nil, Bool.and_self, List.length_cons, List.length_nil, Option.map_some, afill, rep, Int.reduceNeg, List.reduceReplicate, List.flatten_cons, List.flatten_nil, List.set_cons_zero, List.set_cons_succ]
        simp only [Tryd.fn11_r20, hw, AmR, kp, exe, Arg.val, Env.at, lk, putd, ok1, okM, abin, Option.getD_some, if_true, if_false, reduceCtorEq, Nat.reduceEqDiff]
        exact e2
      · simp only [Tryd.fn11_r15, gn, c0, AmR, kp, pushA, exe, Arg.val, Env.at, lk, putd, ok1, okM, abin, Option.getD_some, if_true, if_false, reduceCtorEq, Nat.reduceEqDiff, Nat.reduceAdd]
        refine ⟨fun hl' => ?_, fun hl' => ?_⟩
        · obtain ⟨v', H', e1, e2⟩ := add ⟨2, -1, m.r⟩ (by unfold changeV; rw [if_neg hr, if_pos hl']) (by simp)
          simp only at e1
          simp only [Tryd.fn11_r16, gn, c1, cl, takeFrom, e1, Nat.zero_add, AmR, kp, exe, Arg.val, Env.at, lk, putd, AV.cells?, ok1, okM, Option.getD_some, if_true, if_false, reduceCtorEq, Nat.reduceEqDiff, Nat.reduceAdd, Nat.reduceMul, Bool.true_eq_false, and_true, List.append_nil, Nat.reduceLeDiff, List.map_cons, List.map_nil, putAt, solid, List.all_cons, List.all_nil, Bool.and_self, List.length_cons, List.length_nil, Option.map_some, afill, rep, Int.reduceNeg, List.reduceReplicate, List.flatten_cons, List.flatten_nil, List.set_cons_zero, List.set_cons_succ]
          simp only [Tryd.fn11_r20, hw, AmR, kp, exe, Arg.val, Env.at, lk, putd, ok1, okM, abin, Option.getD_some, if_true, if_false, reduceCtorEq, Nat.reduceEqDiff]
          exact e2
        · have hlr := hft.1 (by omega)
          have hrr := hft.2 (by omega)
          rcases s1'.cases with ⟨rfl, h, _⟩ | ⟨rfl, h, _⟩ | ⟨qa, oa, ca, ba, rfl, hba, hla, hca⟩
          · omega
          · omega
          rcases s2'.cases with ⟨rfl, h, _⟩ | ⟨rfl, h, _⟩ | ⟨qb, ob, cb, bb, rfl, hbb, hlb, hcb⟩
          · omega
          · omega
          obtain ⟨x, hxa⟩ : ∃ x, a[m.l.toNat]? = some x := ⟨_, List.getElem?_eq_getElem hlr⟩
          obtain ⟨y, hyb⟩ : ∃ x, b[m.r.toNat]? = some x := ⟨_, List.getElem?_eq_getElem hrr⟩
          have a1 : ba.cells[oa + m.l.toNat * 7 + 1]? = some (.int .i64 x.f) := by rw [cell_rowO Ev.cells_len hca hxa (by omega)]; rfl
          have b1 : bb.cells[ob + m.r.toNat * 7 + 1]? = some (.int .i64 y.f) := by rw [cell_rowO Ev.cells_len hcb hyb (by omega)]; rfl
          have hdv : IntKind.i64.wrap (IntKind.i64.wrap (y.f - x.f) - sh) = dV a b m sh := by unfold dV fAt; rw [hxa, hyb]; rfl
          have hnew := d1.names.new
          have c1' : (0 : Int) ≤ m.l ∧ m.l < (a.length : Int) := by omega
          have c2' : (0 : Int) ≤ m.r ∧ m.r < (b.length : Int) := by omega
          have keep : changeV a b m sh tol = ⟨0, 0, 0⟩ → W Tryd.call K (.block 0 :: ks) [(0, .sl qa oa 7 a.length ca), (1, .sl qb ob 7 b.length cb), (2, .int .i64 tol), (12, .sl q o 2 ms.length cc), (14, .int .i64 sh), (15, v), (16, .int .i64 ((i + 1 : Nat) : Int))] (H.push 56 true m.cells) L := fun hc => by
            rw [hc, if_pos rfl, List.append_nil] at hstep
            exact ih (i + 1) _ v (by omega) (by rw [hstep]; exact d1)
          generalize H.push 56 true m.cells = HH at *
          have ga : ∀ nx fl, (AH.mk HH.blks nx fl).get qa = some ba := fun _ _ => hba
          have gb : ∀ nx fl, (AH.mk HH.blks nx fl).get qb = some bb := fun _ _ => hbb
          have gm : ∀ nx fl, (AH.mk HH.blks nx fl).get H.next = some ⟨m.cells, false, 56, true, true⟩ := fun _ _ => gn
          refine W_drawn' (by kernel_rfl) ?_
          simp only [Tryd.fn11_r17, Tryd.fn11_r17a, Tryd.fn11_r17b, c1'.1, c1'.2, c2'.1, c2'.2, and_self, ga, gb, gm, c0, c1, a1, b1, hdv, hnew, Nat.add_zero, Nat.zero_add, AmR, kp, exe, Arg.val, Env.at, lk, putd, ok1, okM, abin, Option.getD_some, if_true, if_false, reduceCtorEq, Nat.reduceEqDiff, Nat.reduceAdd, true_and, List.nil_append, visH, List.filter_nil, List.flatMap_nil, List.contains_cons, List.contains_nil, Bool.or_false]
          by_cases hgt : tol < dV a b m sh
          · have dd : decide (dV a b m sh > tol) = true := decide_eq_true hgt
            obtain ⟨v', H', e1, e2⟩ := add ⟨3, m.l, m.r⟩ (by unfold changeV; rw [if_neg hr, if_neg hl', if_pos (.inl hgt)]) (by simp)
            simp only at e1
            simp only [Tryd.fn11_r18, dd, AmR, kp, pushA, exe, Arg.val, Env.at, lk, putd, ok1, okM, abin, Option.getD_some, if_true, if_false, reduceCtorEq, Nat.reduceEqDiff]
            simp only [Tryd.fn11_r19, gn, c0, c1, cl, takeFrom, e1, Nat.zero_add, AmR, kp, exe, Arg.val, Env.at, lk, putd, AV.cells?, ok1, okM, Option.getD_some, if_true, if_false, reduceCtorEq, Nat.reduceEqDiff, Nat.reduceAdd, Nat.reduceMul, Bool.true_eq_false, and_true, List.append_nil, Nat.reduceLeDiff, List.map_cons, List.map_nil, putAt, solid, List.all_cons, List.all_nil, Bool.and_self, List.length_cons, List.length_nil, Option.map_some, afill, rep, List.reduceReplicate, List.flatten_cons, List.flatten_nil, List.set_cons_zero, List.set_cons_succ]
            simp only [Tryd.fn11_r20, hw, AmR, kp, exe, Arg.val, Env.at, lk, putd, ok1, okM, abin, Option.getD_some, if_true, if_false, reduceCtorEq, Nat.reduceEqDiff]
            exact e2
          · have dd : decide (dV a b m sh > tol) = false := decide_eq_false hgt
            by_cases hgt2 : tol < IntKind.i64.wrap (0 - dV a b m sh)
            · have dd2 : decide (IntKind.i64.wrap (0 - dV a b m sh) > tol) = true := decide_eq_true hgt2
              obtain ⟨v', H', e1, e2⟩ := add ⟨3, m.l, m.r⟩ (by unfold changeV; rw [if_neg hr, if_neg hl', if_pos (.inr hgt2)]) (by simp)
              simp only at e1
              simp only [Tryd.fn11_r18, dd, dd2, AmR, kp, pushA, exe, Arg.val, Env.at, lk, putd, ok1, okM, abin, Option.getD_some, if_true, if_false, reduceCtorEq, Nat.reduceEqDiff, Bool.false_eq_true, aun]
              simp only [Tryd.fn11_r19, gn, c0, c1, cl, takeFrom, e1, Nat.zero_add, AmR, kp, exe, Arg.val, Env.at, lk, putd, AV.cells?, ok1, okM, Option.getD_some, if_true, if_false, reduceCtorEq, Nat.reduceEqDiff, Nat.reduceAdd, Nat.reduceMul, Bool.true_eq_false, and_true, List.append_nil, Nat.reduceLeDiff, List.map_cons, List.map_nil, putAt, solid, List.all_cons, List.all_nil, Bool.and_self, List.length_cons, List.length_nil, Option.map_some, afill, rep, List.reduceReplicate, List.flatten_cons, List.flatten_nil, List.set_cons_zero, List.set_cons_succ]
              simp only [Tryd.fn11_r20, hw, AmR, kp, exe, Arg.val, Env.at, lk, putd, ok1, okM, abin, Option.getD_some, if_true, if_false, reduceCtorEq, Nat.reduceEqDiff]
              exact e2
            · have dd2 : decide (IntKind.i64.wrap (0 - dV a b m sh) > tol) = false := decide_eq_false hgt2
              simp only [Tryd.fn11_r18, dd, dd2, AmR, kp, pushA, exe, Arg.val, Env.at, lk, putd, ok1, okM, abin, Option.getD_some, if_true, if_false, reduceCtorEq, Nat.reduceEqDiff, Bool.false_eq_true, aun]
              simp only [Tryd.fn11_r20, hw, AmR, kp, exe, Arg.val, Env.at, lk, putd, ok1, okM, abin, Option.getD_some, if_true, if_false, reduceCtorEq, Nat.reduceEqDiff]
              exact keep (by unfold changeV; rw [if_neg hr, if_neg hl', if_neg (by rintro (h | h); exact hgt h; exact hgt2 h)])

theorem Tryd.diffRef (a b : List Ev) (tol : Int) (hla : a.length ≤ 512) (hlb : b.length ≤ 512) (va vb : AV) (H : AH) (ha : EvS H va a) (hb : EvS H vb b) :
    ∃ v' H', Tryd.call 11 [va, vb, .int .i64 tol] H = some (.ok (.tup [v', .int .i64 (diffR a b tol).2]), H') ∧ NewV H 3 v' (diffR a b tol).1.length (rowsOf Ch.cells (diffR a b tol).1) H' := by
  obtain ⟨w1, w2, bs, kq, hvw, s1, s2, hN, _, n1, n2⟩ := views_two ha hb (evs_flat a) (evs_flat b) 4 (rest := [.int .i64 tol]) (us := [.int .i64 tol]) fun k => views_flat rfl (views_nil H k)
  suffices h : W Tryd.call (endK Tryd.fn11.res (Back kq H (DiffP (diffR a b tol) H))) [] [(0, w1), (1, w2), (2, .int .i64 tol)] ⟨bs ++ [], kq, kq⟩ Tryd.fn11.code by
    obtain ⟨vs, H', ⟨v', rfl, hp⟩, hc⟩ := ecall_vE 4 [] (lk Tryd.ext) (lk Tryd.tab) (f := 11) (fn := Tryd.fn11) rfl rfl rfl hvw h
    exact ⟨v', H', hc, hp⟩
  generalize hH : (⟨bs ++ [], kq, kq⟩ : AH) = H0 at s1 s2 hN ⊢
  have hn : H0.next = kq := by rw [← hH]
  have hfl : H0.floor ≤ H0.next := by rw [← hH]; exact Nat.le_refl _
  subst hn
  obtain ⟨ka, Ha, ca, xa⟩ := Tryd.keysRef a w1 H0 (by omega) s1
  have ga := xa.grow
  have s1a := SliceV.grow s1 ga n1
  have s2a := SliceV.grow s2 ga n2
  have n1a : ∀ i o z n c, w1 = .sl i o z n c → i < Ha.next := fun i o z n c e => Nat.lt_of_lt_of_le (n1 i o z n c e) ga.2.1
  have n2a : ∀ i o z n c, w2 = .sl i o z n c → i < Ha.next := fun i o z n c e => Nat.lt_of_lt_of_le (n2 i o z n c e) ga.2.1
  obtain ⟨kb, Hb, cb, xb⟩ := Tryd.keysRef b w2 Ha (by omega) s2a
  have gb := xb.grow
  have s1b := SliceV.grow s1a gb n1a
  have s2b := SliceV.grow s2a gb n2a
  have n1b : ∀ i o z n c, w1 = .sl i o z n c → i < Hb.next := fun i o z n c e => Nat.lt_of_lt_of_le (n1a i o z n c e) gb.2.1
  have n2b : ∀ i o z n c, w2 = .sl i o z n c → i < Hb.next := fun i o z n c e => Nat.lt_of_lt_of_le (n2a i o z n c e) gb.2.1
  have ska : StrS Hb ka (keysL a) := SliceV.grow xa.slice gb xa.lt
  have skb : StrS Hb kb (keysL b) := xb.slice
  simp only [Tryd.fn11, Tryd.fn11_r0, AmR, kp, exe, Arg.val, Env.at, lk, putd, ok1, Option.getD_some, if_true, if_false, reduceCtorEq, Nat.reduceEqDiff]
  simp only [Tryd.fn11_r1, ca, AmR, kp, exe, Arg.val, Env.at, lk, putd, ok1, okM, Option.getD_some, if_true, if_false, List.getElem?_cons_zero, List.getElem?_cons_succ, reduceCtorEq, Nat.reduceEqDiff, List.map_cons, List.map_nil]
  simp only [Tryd.fn11_r2, cb, AmR, kp, exe, Arg.val, Env.at, lk, putd, ok1, okM, Option.getD_some, if_true, if_false, List.getElem?_cons_zero, List.getElem?_cons_succ, reduceCtorEq, Nat.reduceEqDiff, List.map_cons, List.map_nil]
  have bad : (tol < 0 ∨ okL a = false ∨ okL b = false) → diffR a b tol = ([], 1) := fun h => by unfold diffR; rw [if_pos h]
  by_cases ht : tol < 0
  · have d1 : decide (tol < 0) = true := decide_eq_true ht
    simp only [Tryd.fn11_r3, Tryd.fn11_r4, d1, AmR, kp, pushA, exe, Arg.val, Env.at, lk, putd, ok1, okM, abin, Option.getD_some, if_true, if_false, reduceCtorEq, Nat.reduceEqDiff, resAll, resOf, Option.some.injEq, exists_eq_left']
    exact DiffP.bad (bad (.inl ht))
  · have d1 : decide (tol < 0) = false := decide_eq_false ht
    cases hoa : okL a with
    | false =>
      simp only [Tryd.fn11_r3, Tryd.fn11_r4, d1, AmR, kp, pushA, exe, Arg.val, Env.at, lk, putd, ok1, okM, abin, Option.getD_some, if_true, if_false, Bool.not_false, reduceCtorEq, Nat.reduceEqDiff, Bool.false_eq_true, resAll, resOf, Option.some.injEq, aun, exists_eq_left']
      exact DiffP.bad (bad (.inr (.inl hoa)))
    | true =>
      cases hob : okL b with
      | false =>
        simp only [Tryd.fn11_r3, Tryd.fn11_r4, d1, AmR, kp, pushA, exe, Arg.val, Env.at, lk, putd, ok1, okM, abin, Option.getD_some, if_true, if_false, Bool.not_true, Bool.not_false, reduceCtorEq, Nat.reduceEqDiff, Bool.false_eq_true, resAll, resOf, Option.some.injEq, aun, exists_eq_left']
        exact DiffP.bad (bad (.inr (.inr hob)))
      | true =>
        have hgood : diffR a b tol = (diffL a b (shiftV a b (matchesL a b)) tol (matchesL a b), 0) := by
          unfold diffR
          rw [if_neg (by rintro (h | h | h); exact ht h; rw [hoa] at h; cases h; rw [hob] at h; cases h)]
        rw [hgood]
        have hfit := matches_fits a b
        have hml := matches_len a b
        obtain ⟨vm, Hm, cm, xm⟩ := Tryd.pairsRef (keysL a) (keysL b) (by rw [keys_len hoa]; exact hla) (by rw [keys_len hob]; exact hlb) ka kb Hb ska skb
        have gm := xm.grow
        have s1m := SliceV.grow s1b gm n1b
        have s2m := SliceV.grow s2b gm n2b
        have n1m : ∀ i o z n c, w1 = .sl i o z n c → i < Hm.next := fun i o z n c e => Nat.lt_of_lt_of_le (n1b i o z n c e) gm.2.1
        have n2m : ∀ i o z n c, w2 = .sl i o z n c → i < Hm.next := fun i o z n c e => Nat.lt_of_lt_of_le (n2b i o z n c e) gm.2.1
        have smm : MtS Hm vm (matchesL a b) := xm.slice
        have csh := Tryd.shiftRef a b (matchesL a b) (by omega) hfit w1 w2 vm Hm s1m s2m smm
        have lm := SliceV.lenS smm
        have hNm : Names Hm := xm.names (xb.names (xa.names hN))
        have hfm : Hm.floor ≤ Hm.next := by have h1 := (ga.trans (gb.trans gm)).1; have h2 := (ga.trans (gb.trans gm)).2.1; omega
        simp only [Tryd.fn11_r3, d1, AmR, kp, pushA, exe, Arg.val, Env.at, lk, putd, ok1, okM, abin, Option.getD_some, if_true, if_false, Bool.not_true, reduceCtorEq, Nat.reduceEqDiff, Bool.false_eq_true, aun]
        simp only [Tryd.fn11_r5, cm, AmR, kp, exe, Arg.val, Env.at, lk, putd, ok1, okM, Option.getD_some, if_true, if_false, List.getElem?_cons_zero, List.getElem?_cons_succ, reduceCtorEq, Nat.reduceEqDiff, List.map_cons, List.map_nil]
        simp only [Tryd.fn11_r6, bne_self_eq_false, AmR, kp, pushA, exe, Arg.val, Env.at, lk, putd, ok1, okM, abin, Option.getD_some, if_true, if_false, reduceCtorEq, Nat.reduceEqDiff, bne_self_eq_false]
        simp only [Tryd.fn11_r8, csh, AmR, kp, exe, Arg.val, Env.at, lk, putd, ok1, Option.getD_some, if_true, if_false, reduceCtorEq, Nat.reduceEqDiff, List.map_cons, List.map_nil]
        simp only [Tryd.fn11_r9, Tryd.fn11_r10, AmR, kp, exe, Arg.val, Env.at, lk, putd, ok1, Option.getD_some, if_true, if_false, reduceCtorEq, Nat.reduceEqDiff, List.map_nil, afill, rep, List.reduceReplicate, List.flatten_nil]
        refine Tryd.diffRefLoop a b (matchesL a b) (shiftV a b (matchesL a b)) tol (by omega) hfit _ _ _ rfl Hm w1 w2 vm s1m s2m smm n1m n2m xm.lt ?_ (matchesL a b).length 0 _ _ (by omega) (DW.start' hNm hfm)
        intro H2 v2 w hd
        simp only [Tryd.fn11_r21, AmR, kp, exe, Arg.val, Env.at, lk, putd, ok1, Option.getD_some, if_true, if_false, reduceCtorEq, Nat.reduceEqDiff, resAll, resOf, Option.some.injEq, exists_eq_left']
        exact hd.out.back (Nat.le_trans (ga.trans (gb.trans gm)).2.1 (Nat.le_refl _)) H (chs_flat _) rfl fun v' H' a1 => ⟨v', rfl, a1⟩

end Go.Am
