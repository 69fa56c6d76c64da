/-
Rows, of the program and of the reference; the law of rows. Conditions: those that each theorem names.
-/
import Derived.Test.YtolilamofgildaaDoorAmM
import Derived.Test.YtolilamofgildaaDoorAmK
set_option linter.unusedSimpArgs false
set_option linter.unusedVariables false
namespace Go.Am

/-- A list of lists of strings of one's own, from lo on. -/
def TabA (lo : Nat) (H : AH) (v : AV) (rows : List (List (List UInt8))) : Prop :=
  lo ≤ H.next ∧ H.floor ≤ lo ∧ ((v = .nils ∧ rows = []) ∨ ∃ q c us, v = .sl q 0 1 rows.length c ∧ lo ≤ q ∧ us.length = rows.length ∧ Own H 29 1 q rows.length c us ∧
    ∀ (i : Nat) u r, us[i]? = some u → rows[i]? = some r → StrsV H.next H u r ∧ ∀ j o z m c', u = .sl j o z m c' → j ≠ q)

theorem StrsV.stay {H H' : AH} {q : Nat} {u : AV} {r : List (List UInt8)} (h : StrsV H.next H u r) (hs : Stay H H' q) (hq : ∀ j o z m c', u = .sl j o z m c' → j ≠ q) : StrsV H'.next H' u r := by
  refine ⟨?_, fun i o z m c e => Nat.lt_of_lt_of_le (h.2 i o z m c e) hs.2.1⟩
  rcases h.1.cases with ⟨rfl, h1, h2⟩ | ⟨rfl, h1, h2⟩ | ⟨i, o, c, b, rfl, hb, hl, hcs⟩
  · rw [h1, h2]; exact .nil
  · rw [h1, h2]; exact .emp
  · rw [← hcs]
    exact SliceV.sl ((hs.2.2 i (h.2 _ _ _ _ _ rfl) (hq _ _ _ _ _ rfl)).trans hb) hl

theorem SliceV.solid {H : AH} {z : Nat} {v : AV} {n : Nat} {cs : List AV} (h : SliceV H z v n cs) : Go.Am.solid v = true ∧ v.cells? = some [v] := by
  cases h <;> exact ⟨rfl, rfl⟩

theorem TabA.grow {lo : Nat} {H H' : AH} {v : AV} {rows : List (List (List UInt8))} (h : TabA lo H v rows) (hg : Grow H H') : TabA lo H' v rows := by
  obtain ⟨h1, h2, h3⟩ := h
  refine ⟨Nat.le_trans h1 hg.2.1, by rw [hg.1]; exact h2, ?_⟩
  rcases h3 with h3 | ⟨q, c, us, e1, e2, e3, e4, e5⟩
  · exact .inl h3
  · exact .inr ⟨q, c, us, e1, e2, e3, e4.stay (q' := H.next) ⟨hg.1, hg.2.1, fun i hi _ => hg.2.2 i hi⟩ (by obtain ⟨_, _, _, _, hn, _⟩ := e4; omega), fun i u r hu hr => ⟨(e5 i u r hu hr).1.old hg.2.1 hg.2.2, (e5 i u r hu hr).2⟩⟩

theorem TabA.tab {lo : Nat} {H : AH} {v : AV} {rows : List (List (List UInt8))} (h : TabA lo H v rows) : TabV H.next H v rows := by
  obtain ⟨h1, h2, h3⟩ := h
  rcases h3 with ⟨rfl, rfl⟩ | ⟨q, c, us, rfl, e2, e3, e4, e5⟩
  · exact ⟨fun _ _ _ _ _ e => (by cases e), [], rfl, .nil, fun i u r hu => by simp at hu⟩
  · have hc := e4.cells
    obtain ⟨_, hl, _, _, hn, wh, s0, hq⟩ := e4
    refine ⟨fun _ _ _ _ _ e => (by cases e; exact hn), us, e3, ?_, fun i u r hu hr => (e5 i u r hu hr).1⟩
    have := SliceV.sl (H := H) (z := 1) (i := q) (o := 0) (n := rows.length) (c := c) hq (by show 0 + rows.length * 1 ≤ us.length; omega)
    rw [List.drop_zero, List.take_of_length_le (by show us.length ≤ _; omega)] at this
    exact this

theorem TabA.snoc {lo : Nat} {H0 H : AH} {v u : AV} {rows : List (List (List UInt8))} {r : List (List UInt8)} (h0 : TabA lo H0 v rows) (hg : Grow H0 H) (hu : StrsV H.next H u r) (hun : ∀ i o z m c, u = .sl i o z m c → H0.next ≤ i) (hl : rows.length ≤ 1000000000) :
    ∃ v' H', aapp (H.push 29 true [u]) 29 1 24 v [u] = some (.ok v', H') ∧ TabA lo H' v' (rows ++ [r]) ∧ Kept lo H H' ∧ (Names H → Names H') := by
  obtain ⟨h1, h2, h3⟩ := h0.grow hg
  have hu2 : StrsV (H.push 29 true [u]).next (H.push 29 true [u]) u r := hu.old (Nat.le_succ _) fun i hi => get_push_old _ _ _ _ hi
  rcases h3 with ⟨rfl, rfl⟩ | ⟨q, c, us, rfl, e2, e3, e4, e5⟩
  · refine ⟨.sl (H.next + 1) 0 1 1 none, (H.push 29 true [u]).push 29 false [u], ?_, ⟨by show lo ≤ H.next + 1 + 1; omega, h2, .inr ⟨H.next + 1, none, [u], rfl, by omega, rfl, own_new (H.push 29 true [u]) 29 false [u] none (by omega) rfl (.inr rfl) (by show H.floor ≤ H.next + 1; omega), fun i u' r' hu' hr' => ?_⟩⟩, (Kept.push lo H h1 _ _ _).trans (Kept.push lo _ (by show lo ≤ H.next + 1; omega) _ _ _), fun hN => (hN.push _ _ _).push _ _ _⟩
    · unfold aapp
      simp [ok1]
      rfl
    · cases i with
      | zero =>
        simp at hu' hr'
        subst hu'; subst hr'
        exact ⟨hu2.old (Nat.le_succ _) fun i hi => get_push_old _ _ _ _ hi, fun j o z m c' e => by have := hu.2 _ _ _ _ _ e; omega⟩
      | succ i => simp at hu'
  · have hqn : q < H0.next := by
      obtain ⟨_, _, g3⟩ := h0
      rcases g3 with ⟨e, _⟩ | ⟨q', c', us', e, _, _, e4', _⟩
      · cases e
      · cases e
        obtain ⟨_, _, _, _, hn, _⟩ := e4'
        exact hn
    obtain ⟨q', H', a1, a2, a3, a4⟩ := e4.snoc 24 (new := [u]) (m := 1) (by simp) rfl (by omega)
    refine ⟨_, H', a1, ⟨by have := a3.2.1; omega, by rw [a3.1]; exact h2, .inr ⟨q', none, us ++ [u], by rw [List.length_append]; rfl, by omega, by simp [e3], by rw [List.length_append]; exact a2, fun i u' r' hu' hr' => ?_⟩⟩, ⟨a3.1, a3.2.1, fun i hi => a3.2.2 i (by omega) (by omega)⟩, fun hN => aapp_names (hN.push _ _ _) a1⟩
    by_cases hi : i < us.length
    · rw [List.getElem?_append_left hi] at hu'
      rw [List.getElem?_append_left (by omega)] at hr'
      obtain ⟨k1, k2⟩ := e5 i u' r' hu' hr'
      exact ⟨k1.stay a3 k2, fun j o z m c' e => by have := k1.2 _ _ _ _ _ e; omega⟩
    · rw [List.getElem?_append_right (by omega)] at hu'
      rw [List.getElem?_append_right (by omega)] at hr'
      have e0 : i - us.length = 0 := by
        by_cases h : i - us.length = 0
        · exact h
        · rw [List.getElem?_eq_none (by simp; omega)] at hu'; cases hu'
      rw [e0] at hu'
      rw [show i - rows.length = 0 by omega] at hr'
      simp at hu' hr'
      subst hu'; subst hr'
      exact ⟨hu.stay a3 fun j o z m c' e => by have := hun _ _ _ _ _ e; omega, fun j o z m c' e => by have := hu.2 _ _ _ _ _ e; omega⟩

theorem Tryd.indexByte (s : List UInt8) (H : AH) : Tryd.call 35 [.str s, .int .u8 10] H = some (.ok (.int .i64 (Lib.indexByte s 10)), H) :=
  ecall_ext 6 [] _ _ (g := gIndexByte) rfl _ H rfl

theorem indexByte_none {s : List UInt8} {c : UInt8} (h : c ∉ s) : Lib.indexByte s c = -1 := by
  induction s with
  | nil => rfl
  | cons b s ih =>
    have h1 : ¬ (b == c) = true := by simp; intro e; exact h (by simp [e])
    unfold Lib.indexByte
    rw [if_neg h1, ih (fun e => h (by simp [e]))]
    rfl
theorem indexByte_at {l u : List UInt8} {c : UInt8} (h : c ∉ l) : Lib.indexByte (l ++ c :: u) c = l.length := by
  induction l with
  | nil => unfold Lib.indexByte; simp
  | cons b l ih =>
    have h1 : ¬ (b == c) = true := by simp; intro e; exact h (by simp [e])
    rw [List.cons_append]
    unfold Lib.indexByte
    rw [if_neg h1, ih (fun e => h (by simp [e]))]
    have : ¬ ((l.length : Int) == -1) = true := by simp
    rw [if_neg this]
    simp

theorem line_cases (s : List UInt8) : (10 : UInt8) ∉ s ∨ ∃ l u, s = l ++ 10 :: u ∧ (10 : UInt8) ∉ l := by
  induction s with
  | nil => left; simp
  | cons c s ih =>
    by_cases hc : c = 10
    · subst hc; exact .inr ⟨[], s, rfl, by simp⟩
    · rcases ih with h | ⟨l, u, rfl, h⟩
      · left; simp only [List.mem_cons, not_or]; exact ⟨fun e => hc e.symm, h⟩
      · exact .inr ⟨c :: l, u, rfl, by simp only [List.mem_cons, not_or]; exact ⟨fun e => hc e.symm, h⟩⟩

theorem Tryd.rowsLoop (s0 : List UInt8) (lo : Nat) (H0 : AH) (K : AX → St → Prop) (ks : List Fr) (L : ACode) (hL : L = .loop (some [0, 4, 5]) Tryd.fn17_l0) :
    ∀ (n : Nat) (s : List UInt8) (acc : List (List (List UInt8))) (v : AV) (H : AH), s.length ≤ n → s.length + acc.length ≤ 4000000 → TabA lo H v acc → Kept lo H0 H → Names H →
      ((linesL s).2 = [] → ∀ v' H' w w', TabA lo H' v' (acc ++ (linesL s).1.map cellsL) → Kept lo H0 H' → Names H' → Nx Tryd.call K ks [(14, .bool false), (0, .str s0), (4, v'), (5, w), (14, w')] H') →
      ((linesL s).2 ≠ [] → ∀ e H', Kept lo H0 H' → Names H' → e.at 2 = .nils → e.at 3 = .int .i64 4 → Rt Tryd.call K ks e H') →
      W Tryd.call K (.block 0 :: ks) [(0, .str s0), (4, v), (5, .str s)] H L := by
  intro n
  induction n with
  | zero =>
    intro s acc v H hn hl ha hK hN hd hf
    have hs : s = [] := List.length_eq_zero_iff.1 (by omega)
    subst hs
    refine W_loopN hL ?_
    simp only [Tryd.fn17_l0, Tryd.fn17_r5, AmR, Cd_nbeq, kp, pushA, exe, Arg.val, Env.at, lk, putd, ok1, okM, abin, Option.getD_some, if_true, if_false, reduceCtorEq, Nat.reduceEqDiff]
    exact ⟨fun _ => hd rfl v H _ _ (by simpa [linesL] using ha) hK hN, fun h => absurd trivial h⟩
  | succ n ih =>
    intro s acc v H hn hl ha hK hN hd hf
    by_cases hs : s = []
    · subst hs
      refine W_loopN hL ?_
      simp only [Tryd.fn17_l0, Tryd.fn17_r5, AmR, Cd_nbeq, kp, pushA, exe, Arg.val, Env.at, lk, putd, ok1, okM, abin, Option.getD_some, if_true, if_false, reduceCtorEq, Nat.reduceEqDiff]
      exact ⟨fun _ => hd rfl v H _ _ (by simpa [linesL] using ha) hK hN, fun h => absurd trivial h⟩
    refine W_loopN hL ?_
    have e0 : (s = []) = False := eq_false hs
    have hix := Tryd.indexByte s
    rcases line_cases s with hno | ⟨l, u, rfl, hno⟩
    · rw [indexByte_none hno] at hix
      rw [linesL_rest s hno] at hd hf
      simp only [Tryd.fn17_l0, Tryd.fn17_r5, e0, false_implies, not_false_eq_true, true_implies, AmR, Cd_nbeq, kp, pushA, exe, Arg.val, Env.at, lk, putd, ok1, okM, abin, Option.getD_some, if_true, if_false, reduceCtorEq, Nat.reduceEqDiff, true_and]
      simp only [Tryd.fn17_r6, hix, AmR, kp, exe, Arg.val, Env.at, lk, putd, ok1, Option.getD_some, if_true, if_false, reduceCtorEq, Nat.reduceEqDiff, List.map_cons, List.map_nil, Int.reduceNeg]
      simp only [Tryd.fn17_r7, AmR, kp, pushA, exe, Arg.val, Env.at, lk, putd, ok1, okM, abin, Option.getD_some, if_true, if_false, reduceCtorEq, Nat.reduceEqDiff, decide_true, Int.reduceLT, Int.reduceNeg]
      simp only [Tryd.fn17_r8, AmR, kp, exe, Arg.val, Env.at, lk, putd, ok1, Option.getD_some, if_true, if_false, reduceCtorEq, Nat.reduceEqDiff, Int.reduceNeg]
      exact hf hs _ H hK hN rfl rfl
    · rw [indexByte_at hno] at hix
      rw [linesL_line l u hno] at hd hf
      have hsl : (l ++ 10 :: u).length = l.length + 1 + u.length := by simp; omega
      have hneg : ((l.length : Int) < 0) = False := eq_false (by omega)
      have hb1 : bnds (l ++ 10 :: u).length (l ++ 10 :: u).length none (some (.int .i64 (l.length : Int))) = some (0, l.length) := by
        have : (0 : Int) ≤ (l.length : Int) ∧ (l.length : Int) ≤ ((l ++ 10 :: u).length : Int) := by omega
        simp only [bnds, bnd, this, and_self, if_true, Int.toNat_natCast]
      have ht1 : ((l ++ 10 :: u).drop 0).take (l.length - 0) = l := by simp
      have hw := succ_wrap (i := l.length) (by omega)
      have hb2 := bnds_lo (n := (l ++ 10 :: u).length) (a := l.length + 1) (by omega)
      have ht2 : ((l ++ 10 :: u).drop (l.length + 1)).take ((l ++ 10 :: u).length - (l.length + 1)) = u := by
        rw [List.take_of_length_le (by simp; omega)]
        rw [show l ++ 10 :: u = (l ++ [10]) ++ u by simp]
        rw [List.drop_append_of_le_length (by simp)]
        simp
      obtain ⟨cv, H1, b1, b2, b3, b4, b5⟩ := Tryd.cells l (by omega) H hN
      obtain ⟨hsol, hcel⟩ := b2.1.solid
      obtain ⟨v', H2, c1, c2, c3, c4⟩ := ha.snoc b3 b2 b5 (by omega)
      have cc : (H1.push 29 true [cv]).cellsAt H1.next 0 1 = some [cv] := cellsAt_new _ _ _ _ rfl
      have hlo : lo ≤ H.next := ha.1
      simp only [Tryd.fn17_l0, Tryd.fn17_r5, e0, false_implies, not_false_eq_true, true_implies, AmR, Cd_nbeq, kp, pushA, exe, Arg.val, Env.at, lk, putd, ok1, okM, abin, Option.getD_some, if_true, if_false, reduceCtorEq, Nat.reduceEqDiff, true_and]
      simp only [Tryd.fn17_r6, hix, AmR, kp, exe, Arg.val, Env.at, lk, putd, ok1, Option.getD_some, if_true, if_false, reduceCtorEq, Nat.reduceEqDiff, List.map_cons, List.map_nil]
      simp only [Tryd.fn17_r7, hneg, AmR, kp, pushA, exe, Arg.val, Env.at, lk, putd, ok1, okM, abin, Option.getD_some, if_true, if_false, reduceCtorEq, Nat.reduceEqDiff, decide_false]
      simp only [Tryd.fn17_r9, hb1, ht1, b1, hcel, takeFrom, cc, hsol, c1, AmR, kp, exe, Arg.val, Env.at, lk, putd, ok1, Option.getD_some, if_true, if_false, reduceCtorEq, Nat.reduceEqDiff, Nat.reduceAdd, Nat.reduceMul, Bool.true_eq_false, and_true, List.append_nil, Nat.reduceLeDiff, List.map_cons, List.map_nil, putAt, List.all_cons, List.all_nil, Bool.and_self, List.length_cons, List.length_nil, Option.map_some, Option.map_none, afill, rep, List.reduceReplicate, List.flatten_cons, List.flatten_nil, List.set_cons_zero]
      simp only [Tryd.fn17_r10, hw, hb2, ht2, AmR, kp, exe, Arg.val, Env.at, lk, putd, ok1, okM, abin, Option.getD_some, if_true, if_false, reduceCtorEq, Nat.reduceEqDiff, Option.map_some, Option.map_none]
      exact ih u (acc ++ [cellsL l]) v' H2 (by omega) (by simp; omega) c2 ((hK.trans (b3.kept hlo)).trans c3) (c4 b4) (fun h v3 H3 w w' k1 k2 k3 => hd h v3 H3 w w' (by simpa using k1) k2 k3) hf

theorem linesL_len : ∀ (s : List UInt8), (linesL s).1.length + (linesL s).2.length ≤ s.length ∧ (∀ l ∈ (linesL s).1, l.length ≤ s.length)
  | [] => by simp [linesL]
  | c :: t => by
    obtain ⟨h1, h2⟩ := linesL_len t
    unfold linesL
    split
    · refine ⟨by simp; omega, fun l hl => ?_⟩
      rcases List.mem_cons.1 hl with rfl | hl
      · simp
      · have := h2 l hl; simp; omega
    · cases hx : (linesL t).1 with
      | nil => rw [hx] at h1; exact ⟨by simp at h1 ⊢; omega, fun l hl => by cases hl⟩
      | cons a ls =>
        rw [hx] at h1 h2
        refine ⟨by simp at h1 ⊢; omega, fun l hl => ?_⟩
        rcases List.mem_cons.1 hl with rfl | hl
        · have := h2 a (by simp); simp; omega
        · have := h2 l (by simp [hl]); simp; omega

theorem cellsF_len : ∀ (n : Nat) (s : List UInt8), (cellsF n s).length ≤ n + 1 ∧ ∀ x ∈ cellsF n s, x.length ≤ s.length
  | 0, s => by simp [cellsF]
  | n + 1, s => by
    unfold cellsF
    cases hc : cutDD s with
    | none => simp
    | some p =>
      obtain ⟨a, b⟩ := p
      obtain ⟨hs, _⟩ := cutDD_some hc
      obtain ⟨h1, h2⟩ := cellsF_len n (b.dropWhile (· == 32))
      have h3 := dropWhile_le b (· == 32)
      have h4 : s.length = a.length + b.length := by rw [hs]; simp
      refine ⟨by simp; omega, fun x hx => ?_⟩
      rcases List.mem_cons.1 hx with rfl | hx
      · omega
      · have := h2 x hx; omega

/-- Bounds of what a text says. -/
theorem rows_bound {s : List UInt8} (hs : s.length ≤ 3000000) : ((linesL s).1.map cellsL).length ≤ 3000000 ∧ ∀ r ∈ (linesL s).1.map cellsL, r.length ≤ 4000000 ∧ ∀ x ∈ r, x.length ≤ 4000000 := by
  obtain ⟨h1, h2⟩ := linesL_len s
  refine ⟨by rw [List.length_map]; omega, fun r hr => ?_⟩
  obtain ⟨l, hl, rfl⟩ := List.mem_map.1 hr
  have h3 := h2 l hl
  obtain ⟨h4, h5⟩ := cellsF_len l.length l
  exact ⟨by show (cellsF l.length l).length ≤ _; omega, fun x hx => by have := h5 x hx; omega⟩

theorem Tryd.rowsOf (s : List UInt8) (hs : s.length ≤ 3000000) (H : AH) (hN : Names H) (hfl : H.floor ≤ H.next) :
    ∃ v H', Tryd.call 17 [.str s] H = some (.ok (.tup [v, .int .i64 (rowsE s)]), H') ∧ TabV H'.next H' v (rowsS s) ∧ Kept H.next H H' ∧ Names H' := by
  have none : TabV H.next H .nils [] := ⟨fun _ _ _ _ _ e => (by cases e), [], rfl, .nil, fun i u r hu => by simp at hu⟩
  by_cases hbig : (s.length : Int) > 1048576
  · have e1 : ((s.length : Int) > 1048576) = True := eq_true hbig
    have hE : rowsE s = 6 := by unfold rowsE; rw [if_neg (by omega)]
    have hS : rowsS s = [] := by unfold rowsS; rw [if_neg (by rw [hE]; simp)]
    refine ⟨.nils, H, ?_, by rw [hS]; exact none, Kept.refl _ _, hN⟩
    refine ecall_W 6 [] _ _ (out := [.nils, .int .i64 (rowsE s)]) rfl rfl rfl ?_
    show W Tryd.call _ _ _ _ _
    rw [hE]
    simp only [Tryd.fn17, Tryd.fn17_r0, AmR, kp, exe, number, Arg.val, Env.at, lk, putd, ok1, Option.getD_some, if_true, if_false, reduceCtorEq]
    simp only [Tryd.fn17_r1, e1, AmR, kp, pushA, exe, Arg.val, Env.at, lk, putd, ok1, okM, abin, Option.getD_some, if_true, if_false, reduceCtorEq, Nat.reduceEqDiff, decide_true]
    simp only [Tryd.fn17_r2, exactK_ret, AmR, kp, exe, Arg.val, Env.at, lk, putd, ok1, Option.getD_some, if_true, if_false, reduceCtorEq, Nat.reduceEqDiff, resAll, resOf, and_true]
  have e1 : ((s.length : Int) > 1048576) = False := eq_false hbig
  obtain ⟨vs, H', ⟨v, rfl, h1, h2, h3⟩, hc⟩ := ecall_E 6 [] (lk Tryd.ext) (lk Tryd.tab) (f := 17) (fn := Tryd.fn17) (args := [.str s]) (H := H) (R := fun vs H' => ∃ v, vs = [v, .int .i64 (rowsE s)] ∧ TabV H'.next H' v (rowsS s) ∧ Kept H.next H H' ∧ Names H') rfl rfl rfl (by
    show W Tryd.call _ _ _ _ _
    simp only [Tryd.fn17, Tryd.fn17_r0, AmR, kp, exe, number, Arg.val, Env.at, lk, putd, ok1, Option.getD_some, if_true, if_false, reduceCtorEq]
    simp only [Tryd.fn17_r1, e1, AmR, kp, pushA, exe, Arg.val, Env.at, lk, putd, ok1, okM, abin, Option.getD_some, if_true, if_false, reduceCtorEq, Nat.reduceEqDiff, decide_false]
    simp only [Tryd.fn17_r3, AmR, kp, exe, Arg.val, Env.at, lk, putd, ok1, Option.getD_some, if_true, if_false, reduceCtorEq, Nat.reduceEqDiff]
    simp only [Tryd.fn17_r4, AmR, kp, exe, Arg.val, Env.at, lk, putd, ok1, Option.getD_some, if_true, if_false, reduceCtorEq, Nat.reduceEqDiff]
    refine Tryd.rowsLoop s H.next H _ _ _ rfl s.length s [] .nils H (Nat.le_refl _) (by simp; omega) ⟨Nat.le_refl _, hfl, .inl ⟨rfl, rfl⟩⟩ (Kept.refl _ _) hN (fun hr v' H' w w' k1 k2 k3 => ?_) fun hr e H' k2 k3 h2 h3 => ?_
    · rw [List.nil_append] at k1
      obtain ⟨b1, b2⟩ := rows_bound hs
      have hE : rowsE s = if tableE ((linesL s).1.map cellsL) = 0 ∧ tableT ((linesL s).1.map cellsL) = s then 0 else 4 := by
        unfold rowsE; rw [if_pos (by omega)]; simp only [hr, true_and]
      have hS : rowsS s = if rowsE s = 0 then (linesL s).1.map cellsL else [] := rfl
      generalize (linesL s).1.map cellsL = rows at *
      obtain ⟨H2, c1, c2, c3⟩ := Tryd.table H' k3 (by have := k2.1; have := k2.2.1; have := k1.1; omega) v' rows k1.tab b2 (by omega)
      have kk := k2.trans (Kept.trans (m := H.next) (Kept.refl _ _) ⟨c2.1, c2.2.1, fun i hi => c2.2.2 i (by have := k2.2.1; omega)⟩)
      simp only [Tryd.fn17_r11, c1, AmR, kp, exe, Arg.val, Env.at, lk, putd, ok1, okM, Option.getD_some, if_true, if_false, List.getElem?_cons_zero, List.getElem?_cons_succ, reduceCtorEq, Nat.reduceEqDiff, List.map_cons, List.map_nil]
      by_cases hok : tableE rows = 0
      · have f1 : (tableE rows = 0) = True := eq_true hok
        have hTS : tableS rows = tableT rows := by unfold tableS; rw [if_pos hok]
        by_cases hsame : tableT rows = s
        · have f2 : (tableS rows = s) = True := eq_true (by rw [hTS, hsame])
          rw [if_pos ⟨hok, hsame⟩] at hE
          rw [if_pos hE] at hS
          simp only [Tryd.fn17_r12, f1, f2, false_implies, not_true_eq_false, true_implies, and_true, AmR, Cd_nbeq, Rf_bne, kp, pushA, exe, Arg.val, Env.at, lk, putd, ok1, okM, abin, Option.getD_some, if_true, if_false, reduceCtorEq, Nat.reduceEqDiff, Bool.false_eq_true, and_true]
          simp only [Tryd.fn17_r14, endK_ret, AmR, kp, exe, Arg.val, Env.at, lk, putd, ok1, Option.getD_some, if_true, if_false, Nat.reduceEqDiff, resAll, resOf, Option.some.injEq, List.cons.injEq, AV.int.injEq, and_true, true_and, and_assoc, exists_eq_left']
          exact ⟨by rw [hE], by rw [hS]; exact k1.tab.old c2.2.1 c2.2.2, kk, c3⟩
        · have f2 : (tableS rows = s) = False := eq_false (by rw [hTS]; exact hsame)
          rw [if_neg (fun h => hsame h.2)] at hE
          rw [if_neg (by rw [hE]; simp)] at hS
          simp only [Tryd.fn17_r12, f1, f2, false_implies, not_false_eq_true, not_true_eq_false, true_implies, true_and, and_true, AmR, Cd_nbeq, Rf_bne, kp, pushA, exe, Arg.val, Env.at, lk, putd, ok1, okM, abin, Option.getD_some, if_true, if_false, reduceCtorEq, Nat.reduceEqDiff, Bool.false_eq_true, and_true, true_and]
          simp only [Tryd.fn17_r13, endK_ret, AmR, kp, exe, Arg.val, Env.at, lk, putd, ok1, Option.getD_some, if_true, if_false, Nat.reduceEqDiff, resAll, resOf, Option.some.injEq, List.cons.injEq, AV.int.injEq, and_true, true_and, and_assoc, exists_eq_left']
          exact ⟨by rw [hE], by rw [hS]; exact ⟨fun _ _ _ _ _ e => (by cases e), [], rfl, .nil, fun i u r hu => by simp at hu⟩, kk, c3⟩
      · have f1 : (tableE rows = 0) = False := eq_false hok
        rw [if_neg (fun h => hok h.1)] at hE
        rw [if_neg (by rw [hE]; simp)] at hS
        simp only [Tryd.fn17_r12, f1, false_implies, not_false_eq_true, true_implies, true_and, AmR, Cd_nbeq, Rf_bne, kp, pushA, exe, Arg.val, Env.at, lk, putd, ok1, okM, abin, Option.getD_some, if_true, if_false, reduceCtorEq, Nat.reduceEqDiff, Bool.false_eq_true, true_and]
        simp only [Tryd.fn17_r13, endK_ret, AmR, kp, exe, Arg.val, Env.at, lk, putd, ok1, Option.getD_some, if_true, if_false, Nat.reduceEqDiff, resAll, resOf, Option.some.injEq, List.cons.injEq, AV.int.injEq, and_true, true_and, and_assoc, exists_eq_left']
        exact ⟨by rw [hE], by rw [hS]; exact ⟨fun _ _ _ _ _ e => (by cases e), [], rfl, .nil, fun i u r hu => by simp at hu⟩, kk, c3⟩
    · have hE : rowsE s = 4 := by unfold rowsE; rw [if_pos (by omega), if_neg (fun h => hr h.1)]
      have hS : rowsS s = [] := by unfold rowsS; rw [if_neg (by rw [hE]; simp)]
      simp only [Rt_code, Rt_nil, endK_ret, resAll, resOf, h2, h3, Option.some.injEq, exists_eq_left']
      exact ⟨.nils, by rw [hE], by rw [hS]; exact ⟨fun _ _ _ _ _ e => (by cases e), [], rfl, .nil, fun i u r hu => by simp at hu⟩, k2, k3⟩)
  exact ⟨v, H', hc, h1, h2, h3⟩

end Go.Am
