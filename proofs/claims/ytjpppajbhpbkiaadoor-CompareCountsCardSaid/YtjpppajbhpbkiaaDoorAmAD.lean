/-
CompareCounts on the machine. Conditions: none.
-/
import Derived.Test.YtjpppajbhpbkiaaDoorAmAB
import Derived.Test.YtjpppajbhpbkiaaDoorAmAC
set_option linter.unusedSimpArgs false
set_option linter.unusedVariables false
namespace Go.Am

/-- Two lists of strings of one's own, side by side. -/
structure KW (H2 H : AH) (qx : Nat) (cx : Option Nat) (X : List Str) (qy : Nat) (cy : Option Nat) (Y : List Str) : Prop where
  names : Names H
  fl : H.floor ≤ H.next
  grow : Grow H2 H
  ox : Own H 9 1 qx X.length cx (rowsOf strC X)
  oy : Own H 9 1 qy Y.length cy (rowsOf strC Y)
  lx : H2.next ≤ qx
  ly : H2.next ≤ qy
  ne : qx ≠ qy

theorem KW.swap {H2 H : AH} {qx : Nat} {cx : Option Nat} {X : List Str} {qy : Nat} {cy : Option Nat} {Y : List Str} (h : KW H2 H qx cx X qy cy Y) : KW H2 H qy cy Y qx cx X :=
  ⟨h.names, h.fl, h.grow, h.oy, h.ox, h.ly, h.lx, Ne.symm h.ne⟩

theorem KW.add {H2 H : AH} {qx : Nat} {cx : Option Nat} {X : List Str} {qy : Nat} {cy : Option Nat} {Y : List Str} (h : KW H2 H qx cx X qy cy Y) (s : Str) (hl : X.length ≤ 1000000) :
    ∃ q' H', aapp (H.push 9 true [.str s]) 9 1 16 (.sl qx 0 1 X.length cx) [.str s] = some (.ok (.sl q' 0 1 (X.length + 1) none), H') ∧ KW H2 H' q' none (X ++ [s]) qy cy Y := by
  obtain ⟨q', H', e1, e2, e3, e4⟩ := h.ox.snoc 16 (new := [.str s]) (m := 1) (by simp) rfl (by omega)
  have hny : qy < H.next := h.oy.2.2.2.2.1
  refine ⟨q', H', e1, aapp_names (h.names.push _ _ _) e1, by rw [e3.1]; exact Nat.le_trans h.fl e3.2.1, ⟨e3.1.trans h.grow.1, Nat.le_trans h.grow.2.1 e3.2.1, fun j hj => ?_⟩, ?_, h.oy.stay e3 (Ne.symm h.ne), Nat.le_trans h.grow.2.1 e4, h.ly, by omega⟩
  · have hlx := h.lx
    have hgn := h.grow.2.1
    exact (e3.2.2 j (by omega) (by omega)).trans (h.grow.2.2 j hj)
  · have : rowsOf strC (X ++ [s]) = rowsOf strC X ++ [.str s] := by simp [rowsOf, strC]
    rw [this, List.length_append]
    exact e2

theorem KW.slice {H2 H : AH} {qx : Nat} {cx : Option Nat} {X : List Str} {qy : Nat} {cy : Option Nat} {Y : List Str} (h : KW H2 H qx cx X qy cy Y) : StrS H (.sl qx 0 1 X.length cx) X := by
  obtain ⟨hz, hl, hc, hf, hn, wh, s0, hg⟩ := h.ox
  have := SliceV.sl (H := H) (z := 1) (i := qx) (o := 0) (n := X.length) (c := cx) hg (by show 0 + X.length * 1 ≤ (rowsOf strC X).length; omega)
  rw [List.drop_zero, List.take_of_length_le (by show (rowsOf strC X).length ≤ X.length * 1; omega)] at this
  exact this

theorem KW.start {H2 : AH} (hN : Names H2) (hf : H2.floor ≤ H2.next) : KW H2 ((H2.push 9 true []).push 9 true []) H2.next (some 0) [] (H2.next + 1) (some 0) [] where
  names := (hN.push _ _ _).push _ _ _
  fl := Nat.le_succ_of_le (Nat.le_succ_of_le hf)
  grow := (Grow.push _ _ _ _).trans (Grow.push _ _ _ _)
  ox := (own_new H2 9 true [] (some 0) (by decide) rfl (.inl rfl) hf).push _ _ _
  oy := own_new (H2.push 9 true []) 9 true [] (some 0) (by decide) rfl (.inl rfl) (Nat.le_succ_of_le hf)
  lx := Nat.le_refl _
  ly := Nat.le_succ _
  ne := Nat.ne_of_lt (Nat.lt_succ_self _)

theorem Tryd.keyLoopX (a : List Ev) (hla : a.length ≤ 512) (va vb dx dy : AV) (K : AX → St → Prop) (ks : List Fr) (L : ACode) (hL : L = .loop (some [0, 1, 9, 11, 13, 14, 15]) Tryd.fn5_l1) (H2 : AH) (ha : EvS H2 va a) (na : ∀ i o z n c, va = .sl i o z n c → i < H2.next) (qy : Nat) (cy : Option Nat) (Y : List Str) (vy : AV)
    (hk : ∀ H qx cx w, KW H2 H qx cx (a.map keyL) qy cy Y → Nx Tryd.call K ks [(74, .bool false), (0, va), (1, vb), (9, dx), (11, dy), (13, .sl qx 0 1 a.length cx), (14, vy), (15, .int .i64 a.length), (74, w)] H) :
    ∀ (n i : Nat) (H : AH) (qx : Nat) (cx : Option Nat), n + i = a.length → KW H2 H qx cx ((a.take i).map keyL) qy cy Y →
    W Tryd.call K (.block 0 :: ks) [(0, va), (1, vb), (9, dx), (11, dy), (13, .sl qx 0 1 i cx), (14, vy), (15, .int .i64 i)] H L := by
  intro n
  induction n with
  | zero =>
    intro i H qx cx hi hw
    refine W_loopN hL ?_
    obtain rfl : i = a.length := by omega
    have la := SliceV.lenS (SliceV.grow ha hw.grow na)
    rw [List.take_length] at hw
    simp only [Tryd.fn5_l1, Tryd.fn5_r13, la, AmR, kp, pushA, exe, Arg.val, Env.at, lk, putd, ok1, okM, abin, Option.getD_some, if_true, if_false, reduceCtorEq, Nat.reduceEqDiff, Option.map_some, ↓exe_lenl]
    exact ⟨fun h => absurd h (by omega), fun _ => hk _ _ _ _ hw⟩
  | succ n ih =>
    intro i H qx cx hi hw
    refine W_loopN hL ?_
    obtain ⟨x, hx⟩ : ∃ x, a[i]? = some x := ⟨_, List.getElem?_eq_getElem (by omega)⟩
    have h0 : (0 : Int) ≤ (i : Int) := by omega
    have h1 : ((i : Int) < (a.length : Int)) = True := eq_true (by omega)
    have hww : IntKind.i64.wrap ((i : Int) + 1) = ((i + 1 : Nat) : Int) := by rw [IntWalk.i64_in _ (by omega)]; omega
    have sa := SliceV.grow ha hw.grow na
    have la := SliceV.lenS sa
    have hst : (a.take (i + 1)).map keyL = (a.take i).map keyL ++ [keyL x] := by rw [List.take_add_one, hx]; simp
    have hlen : ((a.take i).map keyL).length = i := by rw [List.length_map, List.length_take]; omega
    obtain ⟨q', H', e1, e2⟩ := hw.add (keyL x) (by omega)
    rw [hlen] at e1
    rw [← hst] at e2
    have kx : ∀ H, Tryd.call 7 [.agg x.cells] H = some (.ok (.str (keyL x)), H) := Tryd.key x
    have cn : (H.push 9 true [.str (keyL x)]).cellsAt H.next 0 1 = some [.str (keyL x)] := cellsAt_new _ _ _ _ rfl
    rcases sa.cases with ⟨rfl, h, _⟩ | ⟨rfl, h, _⟩ | ⟨q, o, c, b, rfl, hb, hlb, hcs⟩
    · omega
    · omega
    · have cx' : H.cellsAt q (o + i * 7) 7 = some x.cells := cellsAt_rowO Ev.cells_len hb hlb hcs hx
      simp only [Tryd.fn5_l1, Tryd.fn5_r13, la, h1, AmR, kp, pushA, exe, Arg.val, Env.at, lk, putd, ok1, okM, abin, Option.getD_some, if_true, if_false, reduceCtorEq, Nat.reduceEqDiff, decide_true, Option.map_some, ↓exe_lenl]
      simp only [Tryd.fn5_r14, h0, h1, Int.toNat_natCast, and_self, cx', kx, cn, takeFrom, e1, AmR, kp, exe, Arg.val, Env.at, lk, putd, AV.cells?, ok1, okM, Option.getD_some, if_true, if_false, reduceCtorEq, Nat.reduceEqDiff, Nat.reduceAdd, Nat.reduceMul, Bool.true_eq_false, List.append_nil, Nat.reduceLeDiff, List.map_cons, List.map_nil, putAt, solid, List.all_cons, List.all_nil, Bool.and_self, List.length_cons, List.length_nil, Option.map_some, afill, rep, List.reduceReplicate, List.flatten_cons, List.flatten_nil, List.set_cons_zero]
      simp only [Tryd.fn5_r15, hww, AmR, kp, exe, Arg.val, Env.at, lk, putd, ok1, okM, abin, Option.getD_some, if_true, if_false, reduceCtorEq, Nat.reduceEqDiff]
      exact ih (i + 1) H' q' none (by omega) e2

theorem Tryd.keyLoopY (b : List Ev) (hlb : b.length ≤ 512) (va vb dx dy : AV) (K : AX → St → Prop) (ks : List Fr) (L : ACode) (hL : L = .loop (some [0, 1, 9, 11, 13, 14, 16]) Tryd.fn5_l0) (H2 : AH) (hb : EvS H2 vb b) (nb : ∀ i o z n c, vb = .sl i o z n c → i < H2.next) (qx : Nat) (cx : Option Nat) (X : List Str) (vx : AV)
    (hk : ∀ H qy cy w, KW H2 H qx cx X qy cy (b.map keyL) → Nx Tryd.call K ks [(88, .bool false), (0, va), (1, vb), (9, dx), (11, dy), (13, vx), (14, .sl qy 0 1 b.length cy), (16, .int .i64 b.length), (88, w)] H) :
    ∀ (n i : Nat) (H : AH) (qy : Nat) (cy : Option Nat), n + i = b.length → KW H2 H qx cx X qy cy ((b.take i).map keyL) →
    W Tryd.call K (.block 2 :: ks) [(0, va), (1, vb), (9, dx), (11, dy), (13, vx), (14, .sl qy 0 1 i cy), (16, .int .i64 i)] H L := by
  intro n
  induction n with
  | zero =>
    intro i H qy cy hi hw
    refine W_loopN hL ?_
    obtain rfl : i = b.length := by omega
    have la := SliceV.lenS (SliceV.grow hb hw.grow nb)
    rw [List.take_length] at hw
    simp only [Tryd.fn5_l0, Tryd.fn5_r17, la, AmR, kp, pushA, exe, Arg.val, Env.at, lk, putd, ok1, okM, abin, Option.getD_some, if_true, if_false, reduceCtorEq, Nat.reduceEqDiff, Option.map_some, ↓exe_lenl]
    exact ⟨fun h => absurd h (by omega), fun _ => hk _ _ _ _ hw⟩
  | succ n ih =>
    intro i H qy cy hi hw
    refine W_loopN hL ?_
    obtain ⟨x, hx⟩ : ∃ x, b[i]? = some x := ⟨_, List.getElem?_eq_getElem (by omega)⟩
    have h0 : (0 : Int) ≤ (i : Int) := by omega
    have h1 : ((i : Int) < (b.length : Int)) = True := eq_true (by omega)
    have hww : IntKind.i64.wrap ((i : Int) + 1) = ((i + 1 : Nat) : Int) := by rw [IntWalk.i64_in _ (by omega)]; omega
    have sa := SliceV.grow hb hw.grow nb
    have la := SliceV.lenS sa
    have hst : (b.take (i + 1)).map keyL = (b.take i).map keyL ++ [keyL x] := by rw [List.take_add_one, hx]; simp
    have hlen : ((b.take i).map keyL).length = i := by rw [List.length_map, List.length_take]; omega
    obtain ⟨q', H', e1, e2⟩ := hw.swap.add (keyL x) (by omega)
    rw [hlen] at e1
    rw [← hst] at e2
    have kx : ∀ H, Tryd.call 7 [.agg x.cells] H = some (.ok (.str (keyL x)), H) := Tryd.key x
    have cn : (H.push 9 true [.str (keyL x)]).cellsAt H.next 0 1 = some [.str (keyL x)] := cellsAt_new _ _ _ _ rfl
    rcases sa.cases with ⟨rfl, h, _⟩ | ⟨rfl, h, _⟩ | ⟨q, o, c, bb, rfl, hbb, hlb', hcs⟩
    · omega
    · omega
    · have cx' : H.cellsAt q (o + i * 7) 7 = some x.cells := cellsAt_rowO Ev.cells_len hbb hlb' hcs hx
      simp only [Tryd.fn5_l0, Tryd.fn5_r17, la, h1, AmR, kp, pushA, exe, Arg.val, Env.at, lk, putd, ok1, okM, abin, Option.getD_some, if_true, if_false, reduceCtorEq, Nat.reduceEqDiff, decide_true, Option.map_some, ↓exe_lenl]
      simp only [Tryd.fn5_r18, h0, h1, Int.toNat_natCast, and_self, cx', kx, cn, takeFrom, e1, AmR, kp, exe, Arg.val, Env.at, lk, putd, AV.cells?, ok1, okM, Option.getD_some, if_true, if_false, reduceCtorEq, Nat.reduceEqDiff, Nat.reduceAdd, Nat.reduceMul, Bool.true_eq_false, List.append_nil, Nat.reduceLeDiff, List.map_cons, List.map_nil, putAt, solid, List.all_cons, List.all_nil, Bool.and_self, List.length_cons, List.length_nil, Option.map_some, afill, rep, List.reduceReplicate, List.flatten_cons, List.flatten_nil, List.set_cons_zero]
      simp only [Tryd.fn5_r19, hww, AmR, kp, exe, Arg.val, Env.at, lk, putd, ok1, okM, abin, Option.getD_some, if_true, if_false, reduceCtorEq, Nat.reduceEqDiff]
      exact ih (i + 1) H' q' none (by omega) e2.swap

theorem keys_map {l : List Ev} (h : okL l = true) : keysL l = l.map keyL := by unfold keysL; rw [if_pos h]

theorem Tryd.lawCounts (a : List Ev) (va : AV) (b : List Ev) (vb : AV) (tol more : Int) (H : AH) (ha : EvS H va a) (hb : EvS H vb b) : Tryd.call 5 [va, vb, .int .i64 tol, .int .i64 more] H = some (.ok (.bool true), H) := by
  obtain ⟨w1, w2, bs, kq, hvw, s1, s2, hN, _, n1, n2⟩ := views_two ha hb (evs_flat a) (evs_flat b) 4 (rest := [.int .i64 tol, .int .i64 more]) (us := [.int .i64 tol, .int .i64 more]) fun k => views_flat rfl (views_flat rfl (views_nil H k))
  refine ecall_flat 4 [] _ _ (out := [.bool true]) rfl rfl rfl hvw rfl ?_
  show W Tryd.call _ _ _ _ _
  generalize hH : (⟨bs ++ [], kq, kq⟩ : AH) = H0 at s1 s2 hN ⊢
  have hn : H0.next = kq := by rw [← hH]
  have hfl : H0.floor ≤ H0.next := by rw [← hH]; exact Nat.le_refl _
  subst hn
  have hex := Tryd.awake
  have l1 := SliceV.lenS s1
  have l2 := SliceV.lenS s2
  by_cases hg : a.length ≤ 60 ∧ b.length ≤ 60 ∧ ¬ tol < 0 ∧ ¬ more < tol
  · obtain ⟨h1, h2, h3, h4⟩ := hg
    have d1 : decide ((a.length : Int) > 60) = false := decide_eq_false (by omega)
    have d2 : decide ((b.length : Int) > 60) = false := decide_eq_false (by omega)
    have d3 : decide (tol < 0) = false := decide_eq_false h3
    have d4 : decide (more < tol) = false := decide_eq_false h4
    obtain ⟨x, Hx, cx, nx⟩ := Tryd.diff a b tol (by omega) (by omega) w1 w2 H0 s1 s2
    have gx := nx.grow
    have s1x := SliceV.grow s1 gx n1
    have s2x := SliceV.grow s2 gx n2
    have n1x : ∀ i o z n c, w1 = .sl i o z n c → i < Hx.next := fun i o z n c e => Nat.lt_of_lt_of_le (n1 i o z n c e) gx.2.1
    have n2x : ∀ i o z n c, w2 = .sl i o z n c → i < Hx.next := fun i o z n c e => Nat.lt_of_lt_of_le (n2 i o z n c e) gx.2.1
    obtain ⟨y, Hy, cy, ny⟩ := Tryd.diff a b more (by omega) (by omega) w1 w2 Hx s1x s2x
    have gy := ny.grow
    have s1y := SliceV.grow s1x gy n1x
    have s2y := SliceV.grow s2x gy n2x
    have n1y : ∀ i o z n c, w1 = .sl i o z n c → i < Hy.next := fun i o z n c e => Nat.lt_of_lt_of_le (n1x i o z n c e) gy.2.1
    have n2y : ∀ i o z n c, w2 = .sl i o z n c → i < Hy.next := fun i o z n c e => Nat.lt_of_lt_of_le (n2x i o z n c e) gy.2.1
    have sx : ChS Hy x (diffR a b tol).1 := SliceV.grow nx.slice gy nx.lt
    have sy : ChS Hy y (diffR a b more).1 := ny.slice
    have nxy : ∀ i o z n c, x = .sl i o z n c → i < Hy.next := fun i o z n c e => Nat.lt_of_lt_of_le (nx.lt i o z n c e) gy.2.1
    have nyy := ny.lt
    have hNy : Names Hy := ny.names (nx.names hN)
    have hfy : Hy.floor ≤ Hy.next := by have e1 := (gx.trans gy).1; have e2 := (gx.trans gy).2.1; omega
    simp only [Tryd.fn5, Tryd.fn5_r0, Tryd.fn5_r1, Tryd.fn5_r2, l1, l2, d1, d2, d3, d4, AmR, kp, pushA, exe, number, Arg.val, Env.at, lk, putd, ok1, okM, abin, Option.getD_some, if_true, if_false, reduceCtorEq, Nat.reduceEqDiff, Nat.reduceAdd, Bool.false_eq_true, Option.map_some, ↓exe_lenl]
    simp only [Tryd.fn5_r4, cx, AmR, kp, exe, Arg.val, Env.at, lk, putd, ok1, okM, Option.getD_some, if_true, if_false, List.getElem?_cons_zero, List.getElem?_cons_succ, reduceCtorEq, Nat.reduceEqDiff, List.map_cons, List.map_nil]
    simp only [Tryd.fn5_r5, cy, AmR, kp, exe, Arg.val, Env.at, lk, putd, ok1, okM, Option.getD_some, if_true, if_false, List.getElem?_cons_zero, List.getElem?_cons_succ, reduceCtorEq, Nat.reduceEqDiff, List.map_cons, List.map_nil]
    by_cases hok : okL a = true ∧ okL b = true
    · obtain ⟨oa, ob⟩ := hok
      have f1 : diffR a b tol = (diffL a b (shiftV a b (matchesL a b)) tol (matchesL a b), 0) := by
        unfold diffR
        rw [if_neg (by rintro (h | h | h); exact h3 h; rw [oa] at h; cases h; rw [ob] at h; cases h)]
      have f2 : diffR a b more = (diffL a b (shiftV a b (matchesL a b)) more (matchesL a b), 0) := by
        unfold diffR
        rw [if_neg (by rintro (h | h | h); omega; rw [oa] at h; cases h; rw [ob] at h; cases h)]
      rw [f1] at sx
      rw [f2] at sy
      have hdl := fun t => diff_len a b (shiftV a b (matchesL a b)) t (matchesL a b)
      have hml := matches_len a b
      rw [f1, f2]
      simp only [Tryd.fn5_r6, bne_self_eq_false, AmR, kp, pushA, exe, Arg.val, Env.at, lk, putd, ok1, okM, abin, Option.getD_some, if_true, if_false, reduceCtorEq, Nat.reduceEqDiff, bne_self_eq_false]
      simp only [Tryd.fn5_r8, bne_self_eq_false, AmR, kp, pushA, exe, Arg.val, Env.at, lk, putd, ok1, okM, abin, Option.getD_some, if_true, if_false, reduceCtorEq, Nat.reduceEqDiff, bne_self_eq_false]
      simp only [Tryd.fn5_r10, AmR, kp, exe, Arg.val, Env.at, lk, putd, ok1, Option.getD_some, if_true, if_false, reduceCtorEq, Nat.reduceEqDiff, List.map_nil, afill, rep, List.reduceReplicate, List.flatten_nil]
      simp only [Tryd.fn5_r11, Tryd.fn5_r12, AmR, kp, exe, Arg.val, Env.at, lk, putd, ok1, Option.getD_some, if_true, if_false, reduceCtorEq, Nat.reduceEqDiff, List.map_nil, afill, rep, List.reduceReplicate, List.flatten_nil]
      refine Tryd.keyLoopX a (by omega) w1 w2 x y _ _ _ rfl Hy s1y n1y (Hy.next + 1) (some 0) [] _ ?_ a.length 0 _ Hy.next (some 0) (by omega) (KW.start hNy hfy)
      intro Ha qx cqx u ka
      simp only [Tryd.fn5_r16, AmR, kp, exe, Arg.val, Env.at, lk, putd, ok1, Option.getD_some, if_true, if_false, reduceCtorEq, Nat.reduceEqDiff]
      refine Tryd.keyLoopY b (by omega) w1 w2 x y _ _ _ rfl Hy s2y n2y qx cqx (a.map keyL) _ ?_ b.length 0 Ha (Hy.next + 1) (some 0) (by omega) ka
      intro Hb qy cqy u2 kb
      have sX := kb.slice
      have sY := kb.swap.slice
      rw [List.length_map] at sX sY
      have cd := Tryd.distance (a.map keyL) (b.map keyL) (by rw [List.length_map]; omega) (by rw [List.length_map]; omega) _ _ Hb sX sY
      have s1b := SliceV.grow s1y kb.grow n1y
      have s2b := SliceV.grow s2y kb.grow n2y
      have sxb : ChS Hb x _ := SliceV.grow sx kb.grow nxy
      have syb : ChS Hb y _ := SliceV.grow sy kb.grow nyy
      have lb1 := SliceV.lenS s1b
      have lb2 := SliceV.lenS s2b
      have c1 := Tryd.counts a b _ (by omega) (by omega) (by have := hdl tol; omega) (diff_ok oa ob (shiftV a b (matchesL a b)) tol) w1 w2 x Hb s1b s2b sxb
      have c2 := Tryd.counts a b _ (by omega) (by omega) (by have := hdl more; omega) (diff_ok oa ob (shiftV a b (matchesL a b)) more) w1 w2 y Hb s1b s2b syb
      obtain ⟨p1, p2, p3⟩ := diff_counts a b (shiftV a b (matchesL a b)) tol (matchesL a b)
      obtain ⟨q1, q2, q3⟩ := diff_counts a b (shiftV a b (matchesL a b)) more (matchesL a b)
      rw [p1, p2, p3] at c1
      rw [q1, q2, q3] at c2
      have hmv := mov_le a b (shiftV a b (matchesL a b)) (tol := tol) (more := more) (by omega) (matchesL a b)
      obtain ⟨z1, z2⟩ := pairs_counts _ (keysL a) (keysL b) 0 0 (Nat.le_refl _)
      have hM : (matchesL a b).countP missB ≤ (matchesL a b).length := List.countP_le_length
      have hE : (matchesL a b).countP extB ≤ (matchesL a b).length := List.countP_le_length
      change (matchesL a b).countP missB + (matchesL a b).countP extB = _ at z1
      change _ + (matchesL a b).countP extB = _ + (matchesL a b).countP missB at z2
      rw [keys_len oa, keys_len ob] at z2
      rw [keys_map oa, keys_map ob] at z1
      generalize (matchesL a b).countP missB = M at *
      generalize (matchesL a b).countP extB = E at *
      generalize (matchesL a b).countP (movB a b (shiftV a b (matchesL a b)) tol) = V1 at *
      generalize (matchesL a b).countP (movB a b (shiftV a b (matchesL a b)) more) = V2 at *
      rw [← z1] at cd
      have w1' : IntKind.i64.wrap ((M : Int) + (E : Int)) = ((M + E : Nat) : Int) := by rw [IntWalk.i64_in _ (by omega)]; omega
      have w2' : IntKind.i64.wrap ((a.length : Int) - (M : Int)) = IntKind.i64.wrap ((b.length : Int) - (E : Int)) := by
        have : (a.length : Int) - (M : Int) = (b.length : Int) - (E : Int) := by omega
        rw [this]
      have dv : decide ((V2 : Int) ≤ (V1 : Int)) = true := decide_eq_true (by omega)
      simp only [Tryd.fn5_r20, cd, AmR, kp, exe, Arg.val, Env.at, lk, putd, ok1, okM, Option.getD_some, if_true, if_false, List.getElem?_cons_zero, List.getElem?_cons_succ, reduceCtorEq, Nat.reduceEqDiff, List.map_cons, List.map_nil]
      simp only [Tryd.fn5_r21, c1, AmR, kp, exe, Arg.val, Env.at, lk, putd, ok1, okM, Option.getD_some, if_true, if_false, List.getElem?_cons_zero, List.getElem?_cons_succ, reduceCtorEq, Nat.reduceEqDiff, List.map_cons, List.map_nil]
      simp only [Tryd.fn5_r22, AmR, kp, exe, Arg.val, Env.at, lk, putd, ok1, Option.getD_some, if_true, if_false, reduceCtorEq, Nat.reduceEqDiff]
      simp only [Tryd.fn5_r23, c2, AmR, kp, exe, Arg.val, Env.at, lk, putd, ok1, okM, Option.getD_some, if_true, if_false, List.getElem?_cons_zero, List.getElem?_cons_succ, reduceCtorEq, Nat.reduceEqDiff, List.map_cons, List.map_nil]
      simp only [Tryd.fn5_r24, AmR, kp, exe, Arg.val, Env.at, lk, putd, ok1, Option.getD_some, if_true, if_false, reduceCtorEq, Nat.reduceEqDiff]
      simp only [Tryd.fn5_r25, beq_self_eq_true, AmR, kp, exe, Arg.val, Env.at, lk, putd, ok1, okM, abin, Option.getD_some, if_true, if_false, reduceCtorEq, Nat.reduceEqDiff]
      simp only [Tryd.fn5_r26, w1', beq_self_eq_true, AmR, kp, exe, Arg.val, Env.at, lk, putd, ok1, okM, abin, Option.getD_some, if_true, if_false, reduceCtorEq, Nat.reduceEqDiff]
      simp only [Tryd.fn5_r27, dv, beq_self_eq_true, AmR, kp, exe, Arg.val, Env.at, lk, putd, ok1, okM, abin, Option.getD_some, if_true, if_false, reduceCtorEq, Nat.reduceEqDiff]
      simp only [Tryd.fn5_r28, lb1, lb2, w2', beq_self_eq_true, AmR, kp, exe, Arg.val, Env.at, lk, putd, ok1, okM, abin, Option.getD_some, if_true, if_false, reduceCtorEq, Nat.reduceEqDiff, Option.map_some, ↓exe_lenl]
      simp only [Tryd.fn5_r29, hex, AmR, kp, exe, Arg.val, Env.at, lk, putd, ok1, Option.getD_some, if_true, if_false, Nat.reduceEqDiff, resAll, resOf, List.map_nil]
    · have hbad : okL a = false ∨ okL b = false := by
        cases h : okL a with
        | false => exact .inl rfl
        | true =>
          cases h' : okL b with
          | false => exact .inr rfl
          | true => exact absurd ⟨h, h'⟩ hok
      have f1 : diffR a b tol = ([], 1) := by unfold diffR; rw [if_pos (.inr hbad)]
      have f2 : diffR a b more = ([], 1) := by unfold diffR; rw [if_pos (.inr hbad)]
      rw [f1, f2]
      simp only [Tryd.fn5_r6, bne_self_eq_false, AmR, kp, pushA, exe, Arg.val, Env.at, lk, putd, ok1, okM, abin, Option.getD_some, if_true, if_false, reduceCtorEq, Nat.reduceEqDiff, bne_self_eq_false]
      have b10 : ((1 : Int) != 0) = true := rfl
      simp only [Tryd.fn5_r8, b10, AmR, kp, pushA, exe, Arg.val, Env.at, lk, putd, ok1, okM, abin, Option.getD_some, if_true, if_false, reduceCtorEq, Nat.reduceEqDiff]
      simp only [Tryd.fn5_r9, hex, beq_self_eq_true, AmR, kp, exe, Arg.val, Env.at, lk, putd, ok1, okM, abin, Option.getD_some, if_true, if_false, reduceCtorEq, Nat.reduceEqDiff, resAll, resOf, List.map_nil]
  · by_cases h1 : a.length ≤ 60
    · have d1 : decide ((a.length : Int) > 60) = false := decide_eq_false (by omega)
      by_cases h2 : b.length ≤ 60
      · have d2 : decide ((b.length : Int) > 60) = false := decide_eq_false (by omega)
        by_cases h3 : tol < 0
        · have d3 : decide (tol < 0) = true := decide_eq_true h3
          simp only [Tryd.fn5, Tryd.fn5_r0, Tryd.fn5_r1, Tryd.fn5_r2, Tryd.fn5_r3, l1, l2, d1, d2, d3, hex, AmR, kp, pushA, exe, number, Arg.val, Env.at, lk, putd, ok1, okM, abin, Option.getD_some, if_true, if_false, reduceCtorEq, Nat.reduceEqDiff, Nat.reduceAdd, Bool.false_eq_true, resAll, resOf, List.map_nil, Option.map_some, ↓exe_lenl]
        · have d3 : decide (tol < 0) = false := decide_eq_false h3
          have d4 : decide (more < tol) = true := decide_eq_true (by
            by_cases h4 : more < tol
            · exact h4
            · exact absurd ⟨h1, h2, h3, h4⟩ hg)
          simp only [Tryd.fn5, Tryd.fn5_r0, Tryd.fn5_r1, Tryd.fn5_r2, Tryd.fn5_r3, l1, l2, d1, d2, d3, d4, hex, AmR, kp, pushA, exe, number, Arg.val, Env.at, lk, putd, ok1, okM, abin, Option.getD_some, if_true, if_false, reduceCtorEq, Nat.reduceEqDiff, Nat.reduceAdd, Bool.false_eq_true, resAll, resOf, List.map_nil, Option.map_some, ↓exe_lenl]
      · have d2 : decide ((b.length : Int) > 60) = true := decide_eq_true (by omega)
        simp only [Tryd.fn5, Tryd.fn5_r0, Tryd.fn5_r1, Tryd.fn5_r2, Tryd.fn5_r3, l1, l2, d1, d2, hex, AmR, kp, pushA, exe, number, Arg.val, Env.at, lk, putd, ok1, okM, abin, Option.getD_some, if_true, if_false, reduceCtorEq, Nat.reduceEqDiff, Nat.reduceAdd, Bool.false_eq_true, resAll, resOf, List.map_nil, Option.map_some, ↓exe_lenl]
    · have d1 : decide ((a.length : Int) > 60) = true := decide_eq_true (by omega)
      simp only [Tryd.fn5, Tryd.fn5_r0, Tryd.fn5_r1, Tryd.fn5_r2, Tryd.fn5_r3, l1, d1, hex, AmR, kp, pushA, exe, number, Arg.val, Env.at, lk, putd, ok1, okM, abin, Option.getD_some, if_true, if_false, reduceCtorEq, Nat.reduceEqDiff, Nat.reduceAdd, resAll, resOf, List.map_nil, Option.map_some, ↓exe_lenl]

end Go.Am
