/-
compare.Diff. Conditions: the lists are short.
-/
import Derived.Test.YtjpppajbhpbkiaaDoorAmR
set_option linter.unusedSimpArgs false
set_option linter.unusedVariables false
namespace Go.Am

theorem Tryd.diffLoop (a b : List Ev) (ms : List Mt) (sh tol : Int) (hl : ms.length ≤ 1000000) (hfit : ∀ m ∈ ms, m.fits a b) (K : AX → St → Prop) (ks : List Fr) (L : ACode) (hL : L = .loop (some [0, 1, 2, 14, 15, 52, 53, 54]) Tryd.fn10_l0) (H1 : AH) (va vb vm : AV) (ha : EvS H1 va a) (hb : EvS H1 vb b) (hm : MtS H1 vm ms) (na : ∀ i o z n c, va = .sl i o z n c → i < H1.next) (nb : ∀ i o z n c, vb = .sl i o z n c → i < H1.next) (nm : ∀ i o z n c, vm = .sl i o z n c → i < H1.next)
    (hk : ∀ H v w, DW H1 H v (diffL a b sh tol ms) → Nx Tryd.call K ks [(55, .bool false), (0, va), (1, vb), (2, .int .i64 tol), (14, .int .i64 sh), (15, v), (52, vm), (53, .int .i64 ms.length), (54, .int .i64 ms.length), (55, w)] H) :
    ∀ (n i : Nat) (H : AH) (v : AV), n + i = ms.length → DW H1 H v (diffL a b sh tol (ms.take i)) →
    W Tryd.call K (.block 0 :: ks) [(0, va), (1, vb), (2, .int .i64 tol), (14, .int .i64 sh), (15, v), (52, vm), (53, .int .i64 ms.length), (54, .int .i64 i)] H L := by
  intro n
  induction n with
  | zero =>
    intro i H v hi hd
    refine W_loopN hL ?_
    have hi' : i = ms.length := by omega
    subst hi'
    rw [List.take_length] at hd
    simp only [Tryd.fn10_l0, Tryd.fn10_r11, AmR, kp, pushA, exe, Arg.val, Env.at, lk, putd, okM, abin, Option.getD_some, if_true, if_false, reduceCtorEq, Nat.reduceEqDiff]
    exact ⟨fun h => absurd h (by omega), fun _ => hk _ _ _ hd⟩
  | succ n ih =>
    intro i H v hi hd
    refine W_loopN hL ?_
    obtain ⟨m, hx⟩ : ∃ x, ms[i]? = some x := ⟨_, List.getElem?_eq_getElem (by omega)⟩
    have hft := hfit m (List.mem_of_getElem? hx)
    have h0 : (0 : Int) ≤ (i : Int) := by omega
    have h1 : ((i : Int) < (ms.length : Int)) = True := eq_true (by omega)
    have hw : IntKind.i64.wrap ((i : Int) + 1) = ((i + 1 : Nat) : Int) := by rw [IntWalk.i64_in _ (by omega)]; omega
    have hstep := diff_step (a := a) (b := b) (sh := sh) (tol := tol) hx
    have hlen : (diffL a b sh tol (ms.take i)).length ≤ 1000000 := by have := diff_len a b sh tol (ms.take i); rw [List.length_take] at this; omega
    have hm1 := SliceV.grow hm hd.grow nm
    have st := store_push H 56 true [.int .i64 0, .int .i64 0] m.cells hd.fl rfl rfl
    have d1 := hd.push 56 m.cells
    have cn : (H.push 56 true m.cells).cellsAt H.next 0 2 = some m.cells := cellsAt_new _ _ _ _ rfl
    have hch := Tryd.change a b m sh tol hft va vb (H.push 56 true m.cells) (SliceV.grow ha d1.grow na) (SliceV.grow hb d1.grow nb)
    have zf := change_zero (a := a) (b := b) (m := m) (sh := sh) (tol := tol)
    generalize hc : changeV a b m sh tol = c at *
    have st2 := store_push (H.push 56 true m.cells) 48 true [.int .i64 0, .int .i64 0, .int .i64 0] c.cells d1.fl rfl rfl
    have d2 := d1.push 48 c.cells
    have cn2 : ((H.push 56 true m.cells).push 48 true c.cells).cellsAt (H.push 56 true m.cells).next 0 3 = some c.cells := cellsAt_new _ _ _ _ rfl
    have he := aeqs_zero zf
    rcases hm1.cases with ⟨rfl, h, _⟩ | ⟨rfl, h, _⟩ | ⟨q, o, cc, bm, rfl, hbm, hlm, hcm⟩
    · omega
    · omega
    · have cm : H.cellsAt q (o + i * 2) 2 = some m.cells := cellsAt_rowO Mt.cells_len hbm hlm hcm hx
      have l2 := Mt.cells_len m
      have l3 := Ch.cells_len c
      simp only [Tryd.fn10_l0, Tryd.fn10_r11, h1, AmR, kp, pushA, exe, Arg.val, Env.at, lk, putd, okM, abin, Option.getD_some, if_true, if_false, reduceCtorEq, Nat.reduceEqDiff, decide_true]
      simp only [Tryd.fn10_r12, h0, h1, Int.toNat_natCast, and_self, cm, l2, st, AmR, kp, exe, Arg.val, Env.at, lk, putd, AV.cells?, ok1, okM, Option.getD_some, if_true, if_false, reduceCtorEq, Nat.reduceEqDiff, Option.map_some]
      simp only [Tryd.fn10_r13, cn, hch, l3, st2, AmR, kp, exe, Arg.val, Env.at, lk, putd, AV.cells?, ok1, okM, Option.getD_some, if_true, if_false, reduceCtorEq, Nat.reduceEqDiff, List.map_cons, List.map_nil, Option.map_some]
      simp only [Tryd.fn10_r14, cn2, he, AmR, Cd_bne, kp, pushA, exe, Arg.val, Env.at, lk, putd, okM, Option.getD_some, if_true, if_false, reduceCtorEq, Nat.reduceEqDiff, List.map_nil, Option.map_some, afill, aeqv]
      refine ⟨fun hk0 => ?_, fun hk0 => ?_⟩
      · replace hk0 : c.k = 0 := by simpa using hk0
        rw [if_pos hk0, List.append_nil] at hstep
        simp only [Tryd.fn10_r16, hw, AmR, kp, exe, Arg.val, Env.at, lk, putd, ok1, okM, abin, Option.getD_some, if_true, if_false, reduceCtorEq, Nat.reduceEqDiff]
        exact ih (i + 1) _ v (by omega) (by rw [hstep]; exact d2)
      · replace hk0 : ¬ c.k = 0 := by simpa using hk0
        rw [if_neg hk0] at hstep
        obtain ⟨v', H', e1, e2⟩ := d2.add c hlen
        have cn3 : (((H.push 56 true m.cells).push 48 true c.cells).push 48 true c.cells).cellsAt ((H.push 56 true m.cells).push 48 true c.cells).next 0 3 = some c.cells := cellsAt_new _ _ _ _ rfl
        have pa : putAt [AV.int IntKind.i64 0, AV.int IntKind.i64 0, AV.int IntKind.i64 0] 0 c.cells = c.cells := rfl
        have sol : c.cells.all solid = true := rfl
        simp only [Tryd.fn10_r15, cn2, l3, pa, cn3, takeFrom, e1, sol, AmR, kp, exe, Arg.val, Env.at, lk, putd, AV.cells?, ok1, okM, Option.getD_some, if_true, if_false, reduceCtorEq, Nat.reduceEqDiff, Nat.reduceAdd, Nat.reduceMul, Bool.true_eq_false, and_true, List.append_nil, Nat.reduceLeDiff, List.map_cons, List.map_nil, List.length_cons, List.length_nil, Option.map_some, afill, rep, List.reduceReplicate, List.flatten_cons, List.flatten_nil]
        simp only [Tryd.fn10_r16, hw, AmR, kp, exe, Arg.val, Env.at, lk, putd, ok1, okM, abin, Option.getD_some, if_true, if_false, reduceCtorEq, Nat.reduceEqDiff]
        exact ih (i + 1) _ v' (by omega) (by rw [hstep]; exact e2)

def DiffP (r : List Ch × Int) (H : AH) (vs : List AV) (H' : AH) : Prop := ∃ v', vs = [v', .int .i64 r.2] ∧ NewV H 3 v' r.1.length (rowsOf Ch.cells r.1) H'

theorem DiffP.bad {H H1 : AH} {kq : Nat} {r : List Ch × Int} (h : r = ([], 1)) : Back kq H (DiffP r H) [.nils, .int .i64 1] H1 := by
  subst h
  exact back_flat rfl ⟨.nils, rfl, .inl ⟨rfl, rfl, rfl, rfl⟩⟩

theorem Tryd.diff (a b : List Ev) (tol : Int) (hla : a.length ≤ 512) (hlb : b.length ≤ 512) (va vb : AV) (H : AH) (ha : EvS H va a) (hb : EvS H vb b) :
    ∃ v' H', Tryd.call 10 [va, vb, .int .i64 tol] H = some (.ok (.tup [v', .int .i64 (diffR a b tol).2]), H') ∧ NewV H 3 v' (diffR a b tol).1.length (rowsOf Ch.cells (diffR a b tol).1) H' := by
  obtain ⟨w1, w2, bs, kq, hvw, s1, s2, hN, _, n1, n2⟩ := views_two ha hb (evs_flat a) (evs_flat b) 4 (rest := [.int .i64 tol]) (us := [.int .i64 tol]) fun k => views_flat rfl (views_nil H k)
  suffices h : W Tryd.call (endK Tryd.fn10.res (Back kq H (DiffP (diffR a b tol) H))) [] [(0, w1), (1, w2), (2, .int .i64 tol)] ⟨bs ++ [], kq, kq⟩ Tryd.fn10.code by
    obtain ⟨vs, H', ⟨v', rfl, hp⟩, hc⟩ := ecall_vE 4 [] (lk Tryd.ext) (lk Tryd.tab) (f := 10) (fn := Tryd.fn10) rfl rfl rfl hvw h
    exact ⟨v', H', hc, hp⟩
  generalize hH : (⟨bs ++ [], kq, kq⟩ : AH) = H0 at s1 s2 hN ⊢
  have hn : H0.next = kq := by rw [← hH]
  have hfl : H0.floor ≤ H0.next := by rw [← hH]; exact Nat.le_refl _
  subst hn
  obtain ⟨ka, Ha, ca, xa⟩ := Tryd.keys a w1 H0 (by omega) s1
  have ga := xa.grow
  have s1a := SliceV.grow s1 ga n1
  have s2a := SliceV.grow s2 ga n2
  have n1a : ∀ i o z n c, w1 = .sl i o z n c → i < Ha.next := fun i o z n c e => Nat.lt_of_lt_of_le (n1 i o z n c e) ga.2.1
  have n2a : ∀ i o z n c, w2 = .sl i o z n c → i < Ha.next := fun i o z n c e => Nat.lt_of_lt_of_le (n2 i o z n c e) ga.2.1
  obtain ⟨kb, Hb, cb, xb⟩ := Tryd.keys b w2 Ha (by omega) s2a
  have gb := xb.grow
  have s1b := SliceV.grow s1a gb n1a
  have s2b := SliceV.grow s2a gb n2a
  have n1b : ∀ i o z n c, w1 = .sl i o z n c → i < Hb.next := fun i o z n c e => Nat.lt_of_lt_of_le (n1a i o z n c e) gb.2.1
  have n2b : ∀ i o z n c, w2 = .sl i o z n c → i < Hb.next := fun i o z n c e => Nat.lt_of_lt_of_le (n2a i o z n c e) gb.2.1
  have ska : StrS Hb ka (keysL a) := SliceV.grow xa.slice gb xa.lt
  have skb : StrS Hb kb (keysL b) := xb.slice
  simp only [Tryd.fn10, Tryd.fn10_r0, AmR, kp, exe, Arg.val, Env.at, lk, putd, ok1, Option.getD_some, if_true, if_false, reduceCtorEq, Nat.reduceEqDiff]
  simp only [Tryd.fn10_r1, ca, AmR, kp, exe, Arg.val, Env.at, lk, putd, ok1, okM, Option.getD_some, if_true, if_false, List.getElem?_cons_zero, List.getElem?_cons_succ, reduceCtorEq, Nat.reduceEqDiff, List.map_cons, List.map_nil]
  simp only [Tryd.fn10_r2, cb, AmR, kp, exe, Arg.val, Env.at, lk, putd, ok1, okM, Option.getD_some, if_true, if_false, List.getElem?_cons_zero, List.getElem?_cons_succ, reduceCtorEq, Nat.reduceEqDiff, List.map_cons, List.map_nil]
  have bad : (tol < 0 ∨ okL a = false ∨ okL b = false) → diffR a b tol = ([], 1) := fun h => by unfold diffR; rw [if_pos h]
  by_cases ht : tol < 0
  · have d1 : decide (tol < 0) = true := decide_eq_true ht
    simp only [Tryd.fn10_r3, Tryd.fn10_r4, d1, AmR, kp, pushA, exe, Arg.val, Env.at, lk, putd, ok1, okM, abin, Option.getD_some, if_true, if_false, reduceCtorEq, Nat.reduceEqDiff, resAll, resOf, Option.some.injEq, exists_eq_left']
    exact DiffP.bad (bad (.inl ht))
  · have d1 : decide (tol < 0) = false := decide_eq_false ht
    cases hoa : okL a with
    | false =>
      simp only [Tryd.fn10_r3, Tryd.fn10_r4, d1, AmR, kp, pushA, exe, Arg.val, Env.at, lk, putd, ok1, okM, abin, Option.getD_some, if_true, if_false, Bool.not_false, reduceCtorEq, Nat.reduceEqDiff, Bool.false_eq_true, resAll, resOf, Option.some.injEq, aun, exists_eq_left']
      exact DiffP.bad (bad (.inr (.inl hoa)))
    | true =>
      cases hob : okL b with
      | false =>
        simp only [Tryd.fn10_r3, Tryd.fn10_r4, d1, AmR, kp, pushA, exe, Arg.val, Env.at, lk, putd, ok1, okM, abin, Option.getD_some, if_true, if_false, Bool.not_true, Bool.not_false, reduceCtorEq, Nat.reduceEqDiff, Bool.false_eq_true, resAll, resOf, Option.some.injEq, aun, exists_eq_left']
        exact DiffP.bad (bad (.inr (.inr hob)))
      | true =>
        have hgood : diffR a b tol = (diffL a b (shiftV a b (matchesL a b)) tol (matchesL a b), 0) := by
          unfold diffR
          rw [if_neg (by rintro (h | h | h); exact ht h; rw [hoa] at h; cases h; rw [hob] at h; cases h)]
        rw [hgood]
        have hfit := matches_fits a b
        have hml := matches_len a b
        obtain ⟨vm, Hm, cm, xm⟩ := Tryd.pairs (keysL a) (keysL b) (by rw [keys_len hoa]; exact hla) (by rw [keys_len hob]; exact hlb) ka kb Hb ska skb
        have gm := xm.grow
        have s1m := SliceV.grow s1b gm n1b
        have s2m := SliceV.grow s2b gm n2b
        have n1m : ∀ i o z n c, w1 = .sl i o z n c → i < Hm.next := fun i o z n c e => Nat.lt_of_lt_of_le (n1b i o z n c e) gm.2.1
        have n2m : ∀ i o z n c, w2 = .sl i o z n c → i < Hm.next := fun i o z n c e => Nat.lt_of_lt_of_le (n2b i o z n c e) gm.2.1
        have smm : MtS Hm vm (matchesL a b) := xm.slice
        have csh := Tryd.shift a b (matchesL a b) (by omega) hfit w1 w2 vm Hm s1m s2m smm
        have lm := SliceV.lenS smm
        have hNm : Names Hm := xm.names (xb.names (xa.names hN))
        have hfm : Hm.floor ≤ Hm.next := by have h1 := (ga.trans (gb.trans gm)).1; have h2 := (ga.trans (gb.trans gm)).2.1; omega
        simp only [Tryd.fn10_r3, d1, AmR, kp, pushA, exe, Arg.val, Env.at, lk, putd, ok1, okM, abin, Option.getD_some, if_true, if_false, Bool.not_true, reduceCtorEq, Nat.reduceEqDiff, Bool.false_eq_true, aun]
        simp only [Tryd.fn10_r5, cm, AmR, kp, exe, Arg.val, Env.at, lk, putd, ok1, okM, Option.getD_some, if_true, if_false, List.getElem?_cons_zero, List.getElem?_cons_succ, reduceCtorEq, Nat.reduceEqDiff, List.map_cons, List.map_nil]
        simp only [Tryd.fn10_r6, bne_self_eq_false, AmR, kp, pushA, exe, Arg.val, Env.at, lk, putd, ok1, okM, abin, Option.getD_some, if_true, if_false, reduceCtorEq, Nat.reduceEqDiff, bne_self_eq_false]
        simp only [Tryd.fn10_r8, csh, AmR, kp, exe, Arg.val, Env.at, lk, putd, ok1, Option.getD_some, if_true, if_false, reduceCtorEq, Nat.reduceEqDiff, List.map_cons, List.map_nil]
        simp only [Tryd.fn10_r9, Tryd.fn10_r10, lm, AmR, kp, exe, Arg.val, Env.at, lk, putd, ok1, okM, Option.getD_some, if_true, if_false, reduceCtorEq, Nat.reduceEqDiff, Option.map_some, ↓exe_lenl]
        refine Tryd.diffLoop a b (matchesL a b) (shiftV a b (matchesL a b)) tol (by omega) hfit _ _ _ rfl Hm w1 w2 vm s1m s2m smm n1m n2m xm.lt ?_ (matchesL a b).length 0 Hm .nils (by omega) (DW.start hNm hfm)
        intro H2 v2 w hd
        simp only [Tryd.fn10_r17, AmR, kp, exe, Arg.val, Env.at, lk, putd, ok1, Option.getD_some, if_true, if_false, reduceCtorEq, Nat.reduceEqDiff, resAll, resOf, Option.some.injEq, exists_eq_left']
        exact hd.out.back (Nat.le_trans (ga.trans (gb.trans gm)).2.1 (Nat.le_refl _)) H (chs_flat _) rfl fun v' H' a1 => ⟨v', rfl, a1⟩

end Go.Am
