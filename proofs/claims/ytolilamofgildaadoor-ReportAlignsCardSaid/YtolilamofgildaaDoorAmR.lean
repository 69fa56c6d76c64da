/-
The law of a table's columns. Conditions: those that each theorem names.
-/
import Derived.Test.YtolilamofgildaaDoorAmM
import Derived.Test.YtolilamofgildaaDoorAmQ
set_option linter.unusedSimpArgs false
set_option linter.unusedVariables false
namespace Go.Am

theorem add_wrap {a b : Nat} (h : a + b ≤ 4611686018427387904) : IntKind.i64.wrap ((a : Int) + (b : Int)) = ((a + b : Nat) : Int) := by rw [IntWalk.i64_in _ (by omega)]; omega

theorem byteN {x : UInt8} {n : Nat} (hn : n < 256) (h : x ≠ UInt8.ofNat n) : ((x.toNat : Int) == (n : Int)) = false :=
  beq_eq_false_iff_ne.2 fun e => h (UInt8.toNat_inj.1 (by rw [UInt8.toNat_ofNat']; omega))

theorem Tryd.alEnd (txt : List UInt8) (htl : txt.length ≤ 1048576) (v sv : AV) (H : AH) (at' k e : Nat) (he : txt[e]? = some 10) (K : AX → St → Prop) (ks : List Fr) (L : ACode) (hL : L = .loop (some [0, 3, 5, 6, 7, 8]) Tryd.fn4_l2) :
    ∀ (m p : Nat), m + p = e → (∀ j, p ≤ j → j < e → ∃ x, txt[j]? = some x ∧ x ≠ 10) → (∀ w, Nx Tryd.call K ks [(54, .bool false), (0, v), (3, .str txt), (5, sv), (6, .int .i64 at'), (7, .int .i64 k), (8, .int .i64 e), (54, w)] H) →
      W Tryd.call K (.block 2 :: ks) [(0, v), (3, .str txt), (5, sv), (6, .int .i64 at'), (7, .int .i64 k), (8, .int .i64 p)] H L := by
  have hel : e < txt.length := (List.getElem?_eq_some_iff.1 he).1
  intro m
  induction m with
  | zero =>
    intro p hp _ hd
    refine W_loopN hL ?_
    have hp' : p = e := by omega
    subst hp'
    have hlt : ((p : Int) < (txt.length : Int)) = True := eq_true (by omega)
    have h0 : (0 : Int) ≤ (p : Int) := by omega
    have hz : (((10 : UInt8).toNat : Int) != 10) = false := rfl
    simp only [Tryd.fn4_l2, Tryd.fn4_r15, hlt, h0, Int.toNat_natCast, he, hz, AmR, kp, pushA, exe, Arg.val, Env.at, lk, putd, ok1, okM, abin, Option.getD_some, if_true, if_false, reduceCtorEq, Nat.reduceEqDiff, decide_true, Option.map_some]
    exact hd _
  | succ m ih =>
    intro p hp hs hd
    refine W_loopN hL ?_
    obtain ⟨x, hx, hx10⟩ := hs p (Nat.le_refl _) (by omega)
    have hlt : ((p : Int) < (txt.length : Int)) = True := eq_true (by omega)
    have h0 : (0 : Int) ≤ (p : Int) := by omega
    have hz : ((x.toNat : Int) != 10) = true := by have := byteN (n := 10) (by omega) hx10; simp only [bne]; simpa using this
    have hw := succ_wrap (i := p) (by omega)
    simp only [Tryd.fn4_l2, Tryd.fn4_r15, hlt, h0, Int.toNat_natCast, hx, hz, AmR, kp, pushA, exe, Arg.val, Env.at, lk, putd, ok1, okM, abin, Option.getD_some, if_true, if_false, reduceCtorEq, Nat.reduceEqDiff, decide_true, Option.map_some]
    simp only [Tryd.fn4_r16, hw, AmR, kp, exe, Arg.val, Env.at, lk, putd, ok1, okM, abin, Option.getD_some, if_true, if_false, reduceCtorEq, Nat.reduceEqDiff]
    exact ih (p + 1) (by omega) (fun j h1 h2 => hs j (by omega) h2) hd

theorem Tryd.alBl (txt : List UInt8) (htl : txt.length ≤ 1048576) (v sv pb : AV) (H : AH) (at' k e c p1 : Nat) (hp1 : at' + p1 < e) (hel : e ≤ txt.length) (x : UInt8) (hx : txt[at' + p1]? = some x) (hx32 : x ≠ 32) (K : AX → St → Prop) (ks : List Fr) (L : ACode) (hL : L = .loop (some [0, 3, 5, 6, 7, 8, 9, 10, 11]) Tryd.fn4_l0) :
    ∀ (m p : Nat), m + p = p1 → (∀ j, p ≤ j → j < p1 → txt[at' + j]? = some 32) → (∀ w, Nx Tryd.call K ks [(97, .bool false), (0, v), (3, .str txt), (5, sv), (6, .int .i64 at'), (7, .int .i64 k), (8, .int .i64 e), (9, .int .i64 p1), (10, .int .i64 c), (11, pb), (97, w)] H) →
      W Tryd.call K (.block 6 :: ks) [(0, v), (3, .str txt), (5, sv), (6, .int .i64 at'), (7, .int .i64 k), (8, .int .i64 e), (9, .int .i64 p), (10, .int .i64 c), (11, pb)] H L := by
  intro m
  induction m with
  | zero =>
    intro p hp _ hd
    refine W_loopN hL ?_
    have hp' : p = p1 := by omega
    subst hp'
    have hw := add_wrap (a := at') (b := p) (by omega)
    have hlt : (((at' + p : Nat) : Int) < (e : Int)) = True := eq_true (by omega)
    have h0 : (0 : Int) ≤ ((at' + p : Nat) : Int) := by omega
    have hz : ((x.toNat : Int) == 32) = false := byteN (n := 32) (by omega) hx32
    simp only [Tryd.fn4_l0, Tryd.fn4_r25, hw, hlt, AmR, kp, exe, Arg.val, Env.at, lk, putd, ok1, okM, abin, Option.getD_some, if_true, if_false, reduceCtorEq, Nat.reduceEqDiff, decide_true]
    simp only [Tryd.fn4_r26, h0, Int.toNat_natCast, hx, hz, AmR, kp, pushA, exe, Arg.val, Env.at, lk, putd, ok1, okM, abin, Option.getD_some, if_true, if_false, reduceCtorEq, Nat.reduceEqDiff, Option.map_some]
    exact hd _
  | succ m ih =>
    intro p hp hs hd
    refine W_loopN hL ?_
    have hc := hs p (Nat.le_refl _) (by omega)
    have hw := add_wrap (a := at') (b := p) (by omega)
    have hlt : (((at' + p : Nat) : Int) < (e : Int)) = True := eq_true (by omega)
    have h0 : (0 : Int) ≤ ((at' + p : Nat) : Int) := by omega
    have hz : (((32 : UInt8).toNat : Int) == 32) = true := rfl
    have hw1 := succ_wrap (i := p) (by omega)
    simp only [Tryd.fn4_l0, Tryd.fn4_r25, hw, hlt, AmR, kp, exe, Arg.val, Env.at, lk, putd, ok1, okM, abin, Option.getD_some, if_true, if_false, reduceCtorEq, Nat.reduceEqDiff, decide_true]
    simp only [Tryd.fn4_r26, h0, Int.toNat_natCast, hc, hz, AmR, kp, pushA, exe, Arg.val, Env.at, lk, putd, ok1, okM, abin, Option.getD_some, if_true, if_false, reduceCtorEq, Nat.reduceEqDiff, Option.map_some]
    simp only [Tryd.fn4_r27, hw1, AmR, kp, exe, Arg.val, Env.at, lk, putd, ok1, okM, abin, Option.getD_some, if_true, if_false, reduceCtorEq, Nat.reduceEqDiff]
    exact ih (p + 1) (by omega) (fun j h1 h2 => hs j (by omega) h2) hd

/-- The columns' places of one's own, from lo on. -/
def StV (w : List Nat) (lo : Nat) (H : AH) (v : AV) (m : Nat) : Prop := OutV lo H 3 1 v m (placesC w m)

theorem StV.snoc {w : List Nat} {lo : Nat} {H : AH} {v : AV} {m : Nat} (h : StV w lo H v m) (hl : m ≤ 1000000000) :
    ∃ v' H', aapp (H.push 3 true [.int .i64 (posn w m)]) 3 1 8 v [.int .i64 (posn w m)] = some (.ok v', H') ∧ StV w lo H' v' (m + 1) ∧ Kept lo H H' := by
  obtain ⟨v', H', a1, a2, a3, a4, a5⟩ := OutV.snoc h 8 (new := [.int .i64 (posn w m)]) rfl (by omega)
  exact ⟨v', H', a1, by unfold StV; rw [placesC_succ]; exact a2, a3, a4, a5⟩

theorem Tryd.alCols (txt : List UInt8) (htl : txt.length ≤ 1048576) (v : AV) (n : Nat) (H0 : AH) (rows : List (List (List UInt8))) (hv : TabV n H0 v rows) (lo : Nat) (hlo : n ≤ lo) (w : List Nat) (k : Nat) (r : List (List UInt8)) (hr : rows[k]? = some r) (hk : rows.length ≤ 4000000) (hrl : r.length ≤ 4000000)
    (at' : Nat) (q : List UInt8) (hD : txt.drop at' = rowTxt w r ++ 10 :: q) (hf : fitsW w r) (hcell : ∀ s ∈ r, CellP s) (e : Nat) (he : e = at' + (rowTxt w r).length)
    (K : AX → St → Prop) (ks : List Fr) (L : ACode) (hL : L = .loop (some [0, 3, 5, 6, 7, 8, 9, 10]) Tryd.fn4_l1) :
    ∀ (m c p : Nat) (sv : AV) (H : AH), m + c = r.length → (c = 0 → p = 0) → (∀ c' s, c = c' + 1 → r[c']? = some s → p = posn w c' + s.length) → StV w lo H sv (if k = 0 then c else r.length) → Kept lo H0 H → Names H →
      (∀ p' sv' H' x y, (∀ c' s, r.length = c' + 1 → r[c']? = some s → p' = posn w c' + s.length) → StV w lo H' sv' r.length → Kept lo H0 H' → Names H' → Nx Tryd.call K ks [(79, .bool false), (0, v), (3, .str txt), (5, sv'), (6, .int .i64 at'), (7, .int .i64 k), (8, .int .i64 e), (9, .int .i64 (p' : Nat)), (10, x), (79, y)] H') →
      W Tryd.call K (.block 4 :: ks) [(0, v), (3, .str txt), (5, sv), (6, .int .i64 at'), (7, .int .i64 k), (8, .int .i64 e), (9, .int .i64 p), (10, .int .i64 c)] H L := by
  intro m
  induction m with
  | zero =>
    intro c p sv H hm hp0 hp hst hK hN hd
    refine W_loopN hL ?_
    have hc' : c = r.length := by omega
    subst hc'
    obtain ⟨q1, o1, c1, bk, u, e1, e2, e3, hu⟩ := hv.row hr
    have hq1 : q1 < lo := Nat.lt_of_lt_of_le (hv.1 _ _ _ _ _ e1) hlo
    have e2' : H.get q1 = some bk := (hK.2.2 q1 hq1).trans e2
    have hul := hu.lenS
    have hk0 : (0 : Int) ≤ (k : Int) := by omega
    have hk1 : ((k : Int) < (rows.length : Int)) = True := eq_true (by have := (List.getElem?_eq_some_iff.1 hr).1; omega)
    have hlt : ((r.length : Int) < (r.length : Int)) = False := eq_false (by omega)
    have hst' : StV w lo H sv r.length := by by_cases h : k = 0 <;> simpa [h] using hst
    subst e1
    simp only [Tryd.fn4_l1, Tryd.fn4_r22, e2', e3, hul, hk0, hk1, hlt, Int.toNat_natCast, and_self, AmR, kp, pushA, exe, Arg.val, Env.at, lk, putd, ok1, okM, abin, Option.getD_some, if_true, if_false, reduceCtorEq, Nat.reduceEqDiff, decide_false, Option.map_some, ↓exe_lenl]
    exact hd p sv H _ _ hp hst' hK hN
  | succ m ih =>
    intro c p sv H hm hp0 hp hst hK hN hd
    refine W_loopN hL ?_
    have hs : r[c]? = some r[c] := List.getElem?_eq_getElem (by omega)
    obtain ⟨f1, f2, ⟨x, f3, f4⟩, f5, f6, f7⟩ := row_cols hD hf hcell hs
    obtain ⟨q1, o1, c1, bk, u, e1, e2, e3, hu⟩ := hv.row hr
    obtain ⟨q2, o2, c2, b2, u1, u2, u3⟩ := hu.cell hs
    have hsr := hcell _ (List.mem_of_getElem? hs)
    generalize hsd : r[c] = s at *
    obtain ⟨g1, g2, g3⟩ := row_end hD hcell
    have hq1 : q1 < lo := Nat.lt_of_lt_of_le (hv.1 _ _ _ _ _ e1) hlo
    have e2' : H.get q1 = some bk := (hK.2.2 q1 hq1).trans e2
    have hq2 : q2 < lo := Nat.lt_of_lt_of_le (hu.2 _ _ _ _ _ u1) hlo
    have u2' : H.get q2 = some b2 := (hK.2.2 q2 hq2).trans u2
    have hul := hu.lenS
    have hk0 : (0 : Int) ≤ (k : Int) := by omega
    have hk1 : ((k : Int) < (rows.length : Int)) = True := eq_true (by have := (List.getElem?_eq_some_iff.1 hr).1; omega)
    have hc0 : (0 : Int) ≤ (c : Int) := by omega
    have hc1 : ((c : Int) < (r.length : Int)) = True := eq_true (by omega)
    have hw1 := add_wrap (a := at') (b := posn w c) (by omega)
    have hw2 := add_wrap (a := at' + posn w c) (b := s.length) (by omega)
    have hw3 := add_wrap (a := posn w c) (b := s.length) (by omega)
    have hw4 := succ_wrap (i := c) (by omega)
    have hgt : (((at' + posn w c + s.length : Nat) : Int) > (e : Int)) = False := eq_false (by omega)
    have hb := bnds_in (n := txt.length) (a := at' + posn w c) (b := at' + posn w c + s.length) (by omega) (by omega)
    have ht : (txt.drop (at' + posn w c)).take (at' + posn w c + s.length - (at' + posn w c)) = s := by rw [show at' + posn w c + s.length - (at' + posn w c) = s.length by omega]; exact f2
    have hNg : ∀ nx fl j, (AH.mk H.blks nx fl).get j = H.get j := fun _ _ _ => rfl
    have hnew := hN.new
    have hpn : ∀ c' s', c + 1 = c' + 1 → r[c']? = some s' → posn w c + s.length = posn w c' + s'.length := fun c' s' h1 h2 => by
      obtain rfl : c' = c := by omega
      rw [hs] at h2
      cases h2
      rfl
    subst e1
    simp only [Tryd.fn4_l1, Tryd.fn4_r22, e2', e3, hul, hk0, hk1, hc1, Int.toNat_natCast, and_self, AmR, kp, pushA, exe, Arg.val, Env.at, lk, putd, ok1, okM, abin, Option.getD_some, if_true, if_false, reduceCtorEq, Nat.reduceEqDiff, decide_true, Option.map_some, ↓exe_lenl]
    rw [u1] at e3
    have rest : ∀ (tt : Nat) (x y : AV), (tt = 83 ∨ tt = 103) → Rg Tryd.call K (.code (.trim [0, 3, 5, 6, 7, 8, 9, 10, 12]) :: .code ((((ACode.regd Tryd.fn4_r31).seq (ACode.trim [0, 3, 5, 6, 7, 8, 9, 10, 12, 138])).seq
                (ACode.cond (Arg.t 138) (((ACode.reg Tryd.fn4_r32).seq (ACode.trim [2])).seq ACode.ret) ACode.skip)).seq
            ((((ACode.reg Tryd.fn4_r33).seq (ACode.trim [0, 3, 5, 6, 7, 8, 9, 10, 12, 140])).seq
                  (ACode.cond (Arg.t 140) ((ACode.reg Tryd.fn4_r34).seq (ACode.trim [0, 3, 5, 6, 7, 8, 9, 10, 12]))
                    (((ACode.reg Tryd.fn4_r35).seq (ACode.trim [0, 3, 5, 6, 7, 8, 9, 10, 12, 150])).seq
                      (ACode.cond (Arg.t 150) (((ACode.reg Tryd.fn4_r36).seq (ACode.trim [2])).seq ACode.ret)
                        ACode.skip)))).seq
              ((ACode.reg Tryd.fn4_r37).seq (ACode.trim [0, 3, 5, 6, 7, 8, 9, 10])))) ::
        .block 5 :: .code ((ACode.reg Tryd.fn4_r38).seq (ACode.trim [0, 3, 5, 6, 7, 8, 9, 10])) :: .code L :: .block 4 :: ks)
      [(tt, x), (0, .sl q1 o1 1 rows.length c1), (3, .str txt), (5, sv), (6, .int .i64 at'), (7, .int .i64 k), (8, .int .i64 e), (9, .int .i64 (posn w c : Nat)), (10, .int .i64 c), (tt, y)] H Tryd.fn4_r30 := by
      intro tt x y htt
      have go : ∀ st, st = [((0 : Nat), AV.sl q1 o1 1 rows.length c1), (3, .str txt), (5, sv), (6, .int .i64 at'), (7, .int .i64 k), (8, .int .i64 e), (9, .int .i64 (posn w c : Nat)), (10, .int .i64 c), (12, .int .i64 s.length)] → W Tryd.call K (.code (.trim [0, 3, 5, 6, 7, 8, 9, 10, 12, 138]) :: .code (ACode.cond (Arg.t 138) (((ACode.reg Tryd.fn4_r32).seq (ACode.trim [2])).seq ACode.ret) ACode.skip) :: .code
            ((((ACode.reg Tryd.fn4_r33).seq (ACode.trim [0, 3, 5, 6, 7, 8, 9, 10, 12, 140])).seq
                  (ACode.cond (Arg.t 140) ((ACode.reg Tryd.fn4_r34).seq (ACode.trim [0, 3, 5, 6, 7, 8, 9, 10, 12]))
                    (((ACode.reg Tryd.fn4_r35).seq (ACode.trim [0, 3, 5, 6, 7, 8, 9, 10, 12, 150])).seq
                      (ACode.cond (Arg.t 150) (((ACode.reg Tryd.fn4_r36).seq (ACode.trim [2])).seq ACode.ret)
                        ACode.skip)))).seq
              ((ACode.reg Tryd.fn4_r37).seq (ACode.trim [0, 3, 5, 6, 7, 8, 9, 10]))) ::
        .block 5 :: .code ((ACode.reg Tryd.fn4_r38).seq (ACode.trim [0, 3, 5, 6, 7, 8, 9, 10])) :: .code L :: .block 4 :: ks) st H (.regd Tryd.fn4_r31) := by
        intro st hst'
        subst hst'
        refine W_drawn' (by kernel_rfl) ?_
        simp only [Tryd.fn4_r31, Tryd.fn4_r31a, Tryd.fn4_r31b, Tryd.fn4_r31c, Tryd.fn4_r31d, e2', e3, u2', u3, hk0, hk1, hc0, hc1, hw1, hw2, hgt, hb, ht, Int.toNat_natCast, and_self, AmR, Cd_nbeq, kp, pushA, exe, Arg.val, Env.at, lk, putd, ok1, okM, abin, Option.getD_some, if_true, if_false, reduceCtorEq, Nat.reduceEqDiff, Nat.reduceAdd, decide_false, Bool.false_eq_true, true_and, List.nil_append, visH, List.flatMap_nil, Option.map_some]
        refine ⟨fun _ => ?_, fun h => absurd trivial h⟩
        by_cases hkz : k = 0
        · have hk2 : ((k : Int) == 0) = true := by rw [hkz]; rfl
          rw [if_pos hkz] at hst
          obtain ⟨sv', H1, a1, a2, a3⟩ := hst.snoc (by omega)
          have cc : (H.push 3 true [.int .i64 (posn w c)]).cellsAt H.next 0 1 = some [.int .i64 (posn w c)] := cellsAt_new _ _ _ _ rfl
          have hlo2 : lo ≤ H.next := hst.2.2.1
          have k1 : Kept lo H0 H1 := hK.trans a3
          have n1 : Names H1 := aapp_names (hN.push _ _ _) a1
          simp only [Tryd.fn4_r33, hk2, AmR, kp, pushA, exe, Arg.val, Env.at, lk, putd, ok1, okM, abin, Option.getD_some, if_true, if_false, reduceCtorEq, Nat.reduceEqDiff]
          simp only [Tryd.fn4_r34, takeFrom, cc, a1, AmR, kp, exe, Arg.val, Env.at, lk, putd, AV.cells?, ok1, Option.getD_some, if_true, if_false, reduceCtorEq, Nat.reduceEqDiff, Nat.reduceAdd, Nat.reduceMul, Bool.true_eq_false, and_true, List.append_nil, Nat.reduceLeDiff, List.map_cons, List.map_nil, putAt, solid, List.all_cons, List.all_nil, Bool.and_self, List.length_cons, List.length_nil, afill, rep, List.reduceReplicate, List.flatten_cons, List.flatten_nil, List.set_cons_zero]
          simp only [Tryd.fn4_r37, hw3, AmR, kp, exe, Arg.val, Env.at, lk, putd, ok1, okM, abin, Option.getD_some, if_true, if_false, reduceCtorEq, Nat.reduceEqDiff]
          simp only [Tryd.fn4_r38, hw4, AmR, kp, exe, Arg.val, Env.at, lk, putd, ok1, okM, abin, Option.getD_some, if_true, if_false, reduceCtorEq, Nat.reduceEqDiff]
          exact ih (c + 1) (posn w c + s.length) sv' H1 (by omega) (fun h => by omega) hpn (by rw [if_pos hkz]; exact a2) k1 n1 hd
        · have hk2 : ((k : Int) == 0) = false := beq_eq_false_iff_ne.2 (by omega)
          have hst0 := hst
          rw [if_neg hkz] at hst0
          obtain ⟨_, _, hlo2, hst3⟩ := hst0
          rcases hst3 with ⟨_, h0, _⟩ | ⟨qq, cc, _, hsv, hown⟩
          · omega
          obtain ⟨_, _, _, _, _, wh, s0, hget⟩ := hown
          have hpl : (placesC w r.length)[0 + c * 1]? = some (.int .i64 (posn w c)) := by rw [show 0 + c * 1 = c by omega]; exact placesC_at w (by omega)
          subst hsv
          simp only [Tryd.fn4_r33, hk2, AmR, kp, pushA, exe, Arg.val, Env.at, lk, putd, ok1, okM, abin, Option.getD_some, if_true, if_false, reduceCtorEq, Nat.reduceEqDiff]
          simp only [Tryd.fn4_r35, hget, hpl, hc0, hc1, Int.toNat_natCast, and_self, bne_self_eq_false, AmR, kp, pushA, exe, Arg.val, Env.at, lk, putd, ok1, okM, abin, Option.getD_some, if_true, if_false, reduceCtorEq, Nat.reduceEqDiff, bne_self_eq_false]
          simp only [Tryd.fn4_r37, hw3, AmR, kp, exe, Arg.val, Env.at, lk, putd, ok1, okM, abin, Option.getD_some, if_true, if_false, reduceCtorEq, Nat.reduceEqDiff]
          simp only [Tryd.fn4_r38, hw4, AmR, kp, exe, Arg.val, Env.at, lk, putd, ok1, okM, abin, Option.getD_some, if_true, if_false, reduceCtorEq, Nat.reduceEqDiff]
          exact ih (c + 1) (posn w c + s.length) _ H (by omega) (fun h => by omega) hpn (by rw [if_neg hkz] at hst ⊢; exact hst) hK hN hd
      rcases htt with rfl | rfl
      · simp only [Tryd.fn4_r30, e2', e3, u2', u3, hk0, hk1, hc0, hc1, Int.toNat_natCast, and_self, AmR, kp, exe, Arg.val, Env.at, lk, putd, ok1, okM, Option.getD_some, if_true, if_false, reduceCtorEq, Nat.reduceEqDiff]
        exact go _ rfl
      · simp only [Tryd.fn4_r30, e2', e3, u2', u3, hk0, hk1, hc0, hc1, Int.toNat_natCast, and_self, AmR, kp, exe, Arg.val, Env.at, lk, putd, ok1, okM, Option.getD_some, if_true, if_false, reduceCtorEq, Nat.reduceEqDiff]
        exact go _ rfl
    by_cases hcz : c = 0
    · have hgz : ((c : Int) > 0) = False := eq_false (by omega)
      obtain rfl := hp0 hcz
      have hpz : posn w c = 0 := by subst hcz; cases w <;> rfl
      rw [hpz] at rest
      simp only [Tryd.fn4_r23, hgz, AmR, kp, pushA, exe, Arg.val, Env.at, lk, putd, ok1, okM, abin, Option.getD_some, if_true, if_false, reduceCtorEq, Nat.reduceEqDiff, decide_false, Int.cast_ofNat_Int]
      exact rest 83 _ _ (.inl rfl)
    · have hgz : ((c : Int) > 0) = True := eq_true (by omega)
      simp only [Tryd.fn4_r23, hgz, AmR, kp, pushA, exe, Arg.val, Env.at, lk, putd, ok1, okM, abin, Option.getD_some, if_true, if_false, reduceCtorEq, Nat.reduceEqDiff, decide_true]
      simp only [Tryd.fn4_r24, AmR, kp, exe, Arg.val, Env.at, lk, putd, ok1, Option.getD_some, if_true, if_false, reduceCtorEq, Nat.reduceEqDiff]
      obtain ⟨c', rfl⟩ : ∃ c', c = c' + 1 := ⟨c - 1, by omega⟩
      have hs' : r[c']? = some r[c'] := List.getElem?_eq_getElem (by omega)
      have hpp := hp c' _ rfl hs'
      obtain ⟨_, _, _, _, _, h7⟩ := row_cols hD hf hcell hs'
      obtain ⟨h71, h72⟩ := h7 (by omega)
      rw [← hpp] at h71 h72
      refine Tryd.alBl txt htl _ sv _ H at' k e (c' + 1) (posn w (c' + 1)) (by omega) (by omega) x f3 f4 K _ _ rfl (posn w (c' + 1) - p) p (by omega) h72 fun y => ?_
      have hsub : IntKind.i64.wrap ((posn w (c' + 1) : Int) - (p : Int)) = ((posn w (c' + 1) - p : Nat) : Int) := by rw [IntWalk.i64_in _ (by omega)]; omega
      have hl2 : (((posn w (c' + 1) - p : Nat) : Int) < 2) = False := eq_false (by omega)
      simp only [Tryd.fn4_r28, hsub, hl2, AmR, kp, pushA, exe, Arg.val, Env.at, lk, putd, ok1, okM, abin, Option.getD_some, if_true, if_false, reduceCtorEq, Nat.reduceEqDiff, decide_false]
      exact rest 103 _ _ (.inr rfl)

end Go.Am
