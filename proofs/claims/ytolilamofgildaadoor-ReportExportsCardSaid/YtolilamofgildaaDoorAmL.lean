/-
The cells of a line, of the program and of the reference. Conditions: those that each theorem names.
-/
import Derived.Test.YtolilamofgildaaDoorAmI
set_option linter.unusedSimpArgs false
set_option linter.unusedVariables false
namespace Go.Am

theorem Tryd.indexS (s p : List UInt8) (H : AH) (h : s.length < 4294967281) : Tryd.call 52 [.str s, .str p] H = some (.ok (.int .i64 (Lib.index s p)), H) :=
  ecall_ext 6 [] _ _ (g := gIndexS) rfl _ H (by unfold gIndexS; simp only [h, if_true]; rfl)
theorem Tryd.trimLeft (s : List UInt8) (H : AH) : Tryd.call 53 [.str s, .str [32]] H = some (.ok (.str (s.dropWhile (· == 32))), H) :=
  ecall_ext 6 [] _ _ (g := gTrimLeft) rfl _ H rfl

/-- A list of strings of one's own, from lo on, that begins as nil or empty. -/
def AccV (lo : Nat) (H : AH) (v : AV) (l : List (List UInt8)) : Prop := OutV lo H 9 1 v l.length (l.map AV.str)

theorem AccV.snoc {lo : Nat} {H : AH} {v : AV} {l : List (List UInt8)} (h : AccV lo H v l) (s : List UInt8) (hl : l.length ≤ 1000000000) :
    ∃ v' H', aapp (H.push 9 true [.str s]) 9 1 16 v [.str s] = some (.ok v', H') ∧ AccV lo H' v' (l ++ [s]) ∧ Kept lo H H' := by
  obtain ⟨v', H', a1, a2, a3, a4, a5⟩ := OutV.snoc h 16 (new := [.str s]) rfl (by omega)
  exact ⟨v', H', a1, by simpa [AccV] using a2, a3, a4, a5⟩

/-- It comes back as a list. -/
theorem AccV.back {lo kp : Nat} {H H1 : AH} {v : AV} {l : List (List UInt8)} {vs : List AV} {R : List AV → AH → Prop} (h : AccV lo H1 v l) (hk : kp ≤ lo) (hv : vs.all flat2 = true) (hN : Names H)
    (hR : ∀ u H', StrsV H'.next H' u l → Grow H H' → Names H' → (∀ i o z m c, u = .sl i o z m c → H.next ≤ i) → R (u :: vs) H') : Back kp H R (v :: vs) H1 := by
  obtain ⟨hz, h1, h2, h3⟩ := h
  rcases h3 with ⟨rfl, e1, e2⟩ | ⟨q, c, h4, rfl, h6⟩
  · refine back_flat (by rw [List.all_cons, hv]; rfl) (hR .nils H ⟨?_, fun _ _ _ _ _ e => by cases e⟩ (Grow.refl _) hN fun _ _ _ _ _ e => by cases e)
    rw [e1, e2]; exact .nil
  · obtain ⟨_, hl, hc, hf, hn, wh, s0, hq⟩ := h6
    refine back_slice (by omega) hq rfl (by simp [flat1]) hv (hR _ _ ⟨?_, fun _ _ _ _ _ e => by cases e; exact Nat.lt_succ_self _⟩ (Grow.take1 _ _) ?_ fun _ _ _ _ _ e => by cases e; exact Nat.le_refl _)
    · have := SliceV.sl (H := H.take1 ⟨l.map AV.str, false, 9, wh, s0⟩) (z := 1) (i := H.next) (o := 0) (n := l.length) (c := c) (get_take1 _ _) (by simp)
      rw [List.drop_zero, List.take_of_length_le (by simp)] at this
      exact this
    · intro x hx
      show x.1 < H.next + 1
      rcases List.mem_cons.1 hx with rfl | hx
      · exact Nat.lt_succ_self _
      · have := hN x hx; omega

theorem Tryd.cellsLoop (lo : Nat) (K : AX → St → Prop) (ks : List Fr) (L : ACode) (hL : L = .loop (some [0, 3]) Tryd.fn36_l0) :
    ∀ (n : Nat) (s : List UInt8) (acc : List (List UInt8)) (v : AV) (H : AH), s.length ≤ n → s.length + acc.length ≤ 4000000 → AccV lo H v acc → (∀ e v' H', AccV lo H' v' (acc ++ cellsL s) → e.at 2 = v' → Rt Tryd.call K ks e H') →
      W Tryd.call K (.block 0 :: ks) [(0, .str s), (3, v)] H L := by
  intro n
  induction n with
  | zero =>
    intro s acc v H hn hl ha hr
    have hs : s = [] := List.length_eq_zero_iff.1 (by omega)
    subst hs
    refine W_loopN hL ?_
    have hix := Tryd.indexS [] [32, 32]
    have e0 : Lib.index [] [32, 32] = -1 := rfl
    rw [e0] at hix
    have hix := fun H => hix H (by simp)
    obtain ⟨v', H', a1, a2, a3⟩ := ha.snoc [] (by simp at hl; omega)
    have c1 : (H.push 9 true [.str []]).cellsAt H.next 0 1 = some [.str []] := cellsAt_new _ _ _ _ rfl
    simp only [Tryd.fn36_l0, Tryd.fn36_r2, hix, AmR, kp, exe, Arg.val, Env.at, lk, putd, ok1, Option.getD_some, if_true, if_false, reduceCtorEq, Nat.reduceEqDiff, List.map_cons, List.map_nil, Int.reduceNeg]
    simp only [Tryd.fn36_r3, AmR, kp, pushA, exe, Arg.val, Env.at, lk, putd, ok1, okM, abin, Option.getD_some, if_true, if_false, reduceCtorEq, Nat.reduceEqDiff, decide_true, Int.reduceLT, Int.reduceNeg]
    simp only [Tryd.fn36_r4, takeFrom, c1, a1, AmR, kp, exe, Arg.val, Env.at, lk, putd, AV.cells?, ok1, Option.getD_some, if_true, if_false, reduceCtorEq, Nat.reduceEqDiff, Nat.reduceAdd, Nat.reduceMul, Bool.true_eq_false, and_true, List.append_nil, Nat.reduceLeDiff, List.map_cons, List.map_nil, putAt, solid, List.all_cons, List.all_nil, Bool.and_self, List.length_cons, List.length_nil, afill, rep, Int.reduceNeg, List.reduceReplicate, List.flatten_cons, List.flatten_nil, List.set_cons_zero]
    exact hr _ v' H' a2 rfl
  | succ n ih =>
    intro s acc v H hn hl ha hr
    refine W_loopN hL ?_
    have hix := Tryd.indexS s [32, 32]
    rw [index_dd] at hix
    rw [cellsL_eq] at hr
    cases hc : cutDD s with
    | none =>
      rw [hc] at hix hr
      have hix := fun H => hix H (by omega)
      obtain ⟨v', H', a1, a2, a3⟩ := ha.snoc s (by omega)
      have c1 : (H.push 9 true [.str s]).cellsAt H.next 0 1 = some [.str s] := cellsAt_new _ _ _ _ rfl
      simp only [Tryd.fn36_l0, Tryd.fn36_r2, hix, AmR, kp, exe, Arg.val, Env.at, lk, putd, ok1, Option.getD_some, if_true, if_false, reduceCtorEq, Nat.reduceEqDiff, List.map_cons, List.map_nil, Int.reduceNeg]
      simp only [Tryd.fn36_r3, AmR, kp, pushA, exe, Arg.val, Env.at, lk, putd, ok1, okM, abin, Option.getD_some, if_true, if_false, reduceCtorEq, Nat.reduceEqDiff, decide_true, Int.reduceLT, Int.reduceNeg]
      simp only [Tryd.fn36_r4, takeFrom, c1, a1, AmR, kp, exe, Arg.val, Env.at, lk, putd, AV.cells?, ok1, Option.getD_some, if_true, if_false, reduceCtorEq, Nat.reduceEqDiff, Nat.reduceAdd, Nat.reduceMul, Bool.true_eq_false, and_true, List.append_nil, Nat.reduceLeDiff, List.map_cons, List.map_nil, putAt, solid, List.all_cons, List.all_nil, Bool.and_self, List.length_cons, List.length_nil, afill, rep, Int.reduceNeg, List.reduceReplicate, List.flatten_cons, List.flatten_nil, List.set_cons_zero]
      exact hr _ v' H' a2 rfl
    | some p =>
      obtain ⟨a, b⟩ := p
      rw [hc] at hix hr
      have hix := fun H => hix H (by omega)
      obtain ⟨hs, t, hb⟩ := cutDD_some hc
      have hal : a.length + 2 ≤ s.length := by rw [hs, hb]; simp
      have hneg : ((a.length : Int) < 0) = False := eq_false (by omega)
      have hb1 : bnds s.length s.length none (some (.int .i64 (a.length : Int))) = some (0, a.length) := by
        have : (0 : Int) ≤ (a.length : Int) ∧ (a.length : Int) ≤ (s.length : Int) := by omega
        simp [bnds, bnd, this]
      have hb2 : bnds s.length s.length (some (.int .i64 (a.length : Int))) none = some (a.length, s.length) := by
        have : (0 : Int) ≤ (a.length : Int) ∧ (a.length : Int) ≤ (s.length : Int) := by omega
        simp [bnds, bnd, this]
      have ht1 : (s.drop 0).take (a.length - 0) = a := by rw [hs]; simp
      have ht2 : (s.drop a.length).take (s.length - a.length) = b := by rw [hs]; simp
      obtain ⟨v', H', a1, a2, a3⟩ := ha.snoc a (by omega)
      have c1 : (H.push 9 true [.str a]).cellsAt H.next 0 1 = some [.str a] := cellsAt_new _ _ _ _ rfl
      have htl := Tryd.trimLeft b
      have hdl : (b.dropWhile (· == 32)).length + 2 ≤ b.length := by
        have := dropWhile_le t (· == 32)
        rw [hb]; simp; omega
      have hbl : a.length + b.length = s.length := by rw [hs]; simp
      simp only [Tryd.fn36_l0, Tryd.fn36_r2, hix, AmR, kp, exe, Arg.val, Env.at, lk, putd, ok1, Option.getD_some, if_true, if_false, reduceCtorEq, Nat.reduceEqDiff, List.map_cons, List.map_nil]
      simp only [Tryd.fn36_r3, hneg, AmR, kp, pushA, exe, Arg.val, Env.at, lk, putd, ok1, okM, abin, Option.getD_some, if_true, if_false, reduceCtorEq, Nat.reduceEqDiff, decide_false]
      simp only [Tryd.fn36_r5, hb1, ht1, takeFrom, c1, a1, AmR, kp, exe, Arg.val, Env.at, lk, putd, AV.cells?, ok1, Option.getD_some, if_true, if_false, reduceCtorEq, Nat.reduceEqDiff, Nat.reduceAdd, Nat.reduceMul, Bool.true_eq_false, and_true, List.append_nil, Nat.reduceLeDiff, List.map_cons, List.map_nil, putAt, solid, List.all_cons, List.all_nil, Bool.and_self, List.length_cons, List.length_nil, Option.map_some, Option.map_none, afill, rep, List.reduceReplicate, List.flatten_cons, List.flatten_nil, List.set_cons_zero]
      simp only [Tryd.fn36_r6, hb2, ht2, htl, AmR, kp, exe, Arg.val, Env.at, lk, putd, ok1, Option.getD_some, if_true, if_false, reduceCtorEq, Nat.reduceEqDiff, List.map_cons, List.map_nil, Option.map_some, Option.map_none]
      refine ih _ (acc ++ [a]) v' H' (by omega) (by simp; omega) a2 fun e v'' H'' h1 h2 => hr e v'' H'' (by simpa using h1) h2

theorem Tryd.cells (s : List UInt8) (hs : s.length ≤ 4000000) (H : AH) (hN : Names H) : ∃ u H', Tryd.call 36 [.str s] H = some (.ok u, H') ∧ StrsV H'.next H' u (cellsL s) ∧ Grow H H' ∧ Names H' ∧ ∀ i o z m c, u = .sl i o z m c → H.next ≤ i := by
  obtain ⟨vs, H', ⟨u, rfl, h1, h2, h3, h4⟩, hc⟩ := ecall_vE 6 [] (lk Tryd.ext) (lk Tryd.tab) (f := 36) (fn := Tryd.fn36) (args := [.str s]) (H := H) (R := fun vs H' => ∃ u, vs = [u] ∧ StrsV H'.next H' u (cellsL s) ∧ Grow H H' ∧ Names H' ∧ ∀ i o z m c, u = .sl i o z m c → H.next ≤ i) rfl rfl rfl (views_flat rfl (views_nil H 6)) (by
    show W Tryd.call _ _ _ _ _
    simp only [Tryd.fn36, Tryd.fn36_r0, Tryd.fn36_r1, AmR, kp, exe, number, Arg.val, Env.at, lk, putd, ok1, Option.getD_some, if_true, if_false, reduceCtorEq, List.append_nil]
    refine Tryd.cellsLoop 6 _ _ _ rfl s.length s [] .nils _ (Nat.le_refl _) (by simpa using hs) ⟨by omega, Nat.le_refl _, Nat.le_refl _, .inl ⟨rfl, rfl, rfl⟩⟩ fun e v' H' h1 h2 => ?_
    rw [List.nil_append] at h1
    simp only [Rt_nil, endK_ret, resAll, resOf, h2, Option.some.injEq, exists_eq_left']
    exact h1.back (Nat.le_refl _) rfl hN fun u H'' k1 k2 k3 k4 => ⟨u, rfl, k1, k2, k3, k4⟩)
  exact ⟨u, H', hc, h1, h2, h3, h4⟩

end Go.Am
