/-
The reference's cells and lines. Conditions: those that each theorem names.
-/
import Derived.Test.YtolilamofgildaaDoorAmL
set_option linter.unusedSimpArgs false
set_option linter.unusedVariables false
namespace Go.Am

theorem bnds_in {n a b : Nat} (h1 : a ≤ b) (h2 : b ≤ n) : bnds n n (some (.int .i64 (a : Int))) (some (.int .i64 (b : Int))) = some (a, b) := by
  have e1 : (0 : Int) ≤ (a : Int) ∧ (a : Int) ≤ (b : Int) := by omega
  have e2 : (0 : Int) ≤ (b : Int) ∧ (b : Int) ≤ (n : Int) := by omega
  simp [bnds, bnd, e1, e2]
theorem bnds_lo {n a : Nat} (h1 : a ≤ n) : bnds n n (some (.int .i64 (a : Int))) none = some (a, n) := by
  have e1 : (0 : Int) ≤ (a : Int) ∧ (a : Int) ≤ (n : Int) := by omega
  simp [bnds, bnd, e1]

theorem Tryd.skipLoop (s : List UInt8) (hs : s.length ≤ 4000000) (v : AV) (H : AH) (K : AX → St → Prop) (ks : List Fr) (L : ACode) (hL : L = .loop (some [0, 3, 5]) Tryd.fn38_l0) :
    ∀ (m i : Nat), m + i = s.length → (∀ (i' : Nat) w, i' ≤ s.length → i ≤ i' → s.drop i' = (s.drop i).dropWhile (· == 32) → Nx Tryd.call K ks [(47, .bool false), (0, .str s), (3, v), (5, .int .i64 i'), (47, w)] H) →
      W Tryd.call K (.block 2 :: ks) [(0, .str s), (3, v), (5, .int .i64 i)] H L := by
  intro m
  induction m with
  | zero =>
    intro i hi hd
    refine W_loopN hL ?_
    have hi' : i = s.length := by omega
    subst hi'
    have hlt : ((s.length : Int) < (s.length : Int)) = False := eq_false (by omega)
    simp only [Tryd.fn38_l0, Tryd.fn38_r9, hlt, AmR, kp, pushA, exe, Arg.val, Env.at, lk, putd, ok1, okM, abin, Option.getD_some, if_true, if_false, reduceCtorEq, Nat.reduceEqDiff, decide_false, Bool.false_eq_true]
    exact hd _ _ (Nat.le_refl _) (Nat.le_refl _) (by simp)
  | succ m ih =>
    intro i hi hd
    refine W_loopN hL ?_
    obtain ⟨c, hc⟩ : ∃ c, s[i]? = some c := ⟨_, List.getElem?_eq_getElem (by omega)⟩
    have hlt : ((i : Int) < (s.length : Int)) = True := eq_true (by omega)
    have h0 : (0 : Int) ≤ (i : Int) := by omega
    have hw := succ_wrap (i := i) (by omega)
    have hcz := beq32 c
    rw [drop_cons' hc, List.dropWhile_cons] at hd
    cases hb : (c == 32) with
    | false =>
      rw [hb] at hcz hd
      simp only [Tryd.fn38_l0, Tryd.fn38_r9, hlt, h0, Int.toNat_natCast, hc, hcz, AmR, kp, pushA, exe, Arg.val, Env.at, lk, putd, ok1, okM, abin, Option.getD_some, if_true, if_false, reduceCtorEq, Nat.reduceEqDiff, decide_true, Option.map_some]
      exact hd i _ (by omega) (Nat.le_refl _) (by simpa using drop_cons' hc)
    | true =>
      rw [hb] at hcz hd
      simp only [Tryd.fn38_l0, Tryd.fn38_r9, hlt, h0, Int.toNat_natCast, hc, hcz, AmR, kp, pushA, exe, Arg.val, Env.at, lk, putd, ok1, okM, abin, Option.getD_some, if_true, if_false, reduceCtorEq, Nat.reduceEqDiff, decide_true, Option.map_some]
      simp only [Tryd.fn38_r10, hw, AmR, kp, exe, Arg.val, Env.at, lk, putd, ok1, okM, abin, Option.getD_some, if_true, if_false, reduceCtorEq, Nat.reduceEqDiff]
      exact ih (i + 1) (by omega) fun i' w h1 h2 h3 => hd i' w h1 (by omega) (by simpa using h3)

theorem drop_split {s : List UInt8} {a b : Nat} (h : a ≤ b) : s.drop a = (s.drop a).take (b - a) ++ s.drop b := by
  have := List.take_append_drop (b - a) (s.drop a)
  rw [List.drop_drop] at this
  rw [show a + (b - a) = b by omega] at this
  exact this.symm

theorem Tryd.refCellsLoop (s : List UInt8) (hs : s.length ≤ 4000000) (lo : Nat) (K : AX → St → Prop) (ks : List Fr) (L : ACode) (hL : L = .loop (some [0, 3, 4, 5]) Tryd.fn38_l1) (T : List (List UInt8)) :
    ∀ (n i fr : Nat) (acc : List (List UInt8)) (v : AV) (H : AH), s.length - i ≤ n → fr ≤ i → i ≤ s.length → acc.length ≤ fr → AccV lo H v acc → acc ++ cellsL (s.drop fr) = T → cutDD (s.drop fr) = (cutDD (s.drop i)).map (fun p => ((s.drop fr).take (i - fr) ++ p.1, p.2)) →
      (∀ (fr' : Nat) (acc' : List (List UInt8)) v' H' a b, fr' ≤ s.length → acc'.length ≤ fr' → AccV lo H' v' acc' → acc' ++ [s.drop fr'] = T → Nx Tryd.call K ks [(10, .bool false), (0, .str s), (3, v'), (4, .int .i64 fr'), (5, a), (10, b)] H') →
      W Tryd.call K (.block 0 :: ks) [(0, .str s), (3, v), (4, .int .i64 fr), (5, .int .i64 i)] H L := by
  intro n
  induction n with
  | zero =>
    intro i fr acc v H hn hf hi hacc ha hT hcut hd
    refine W_loopN hL ?_
    have hi' : i = s.length := by omega
    subst hi'
    have hlt : ((s.length : Int) < (s.length : Int)) = False := eq_false (by omega)
    have e0 : cutDD (s.drop fr) = none := by rw [hcut, List.drop_length]; rfl
    rw [cellsL_eq, e0] at hT
    simp only [Tryd.fn38_l1, Tryd.fn38_r4, hlt, AmR, kp, pushA, exe, Arg.val, Env.at, lk, putd, ok1, okM, abin, Option.getD_some, if_true, if_false, reduceCtorEq, Nat.reduceEqDiff, decide_false]
    exact hd fr acc v H _ _ hf hacc ha hT
  | succ n ih =>
    intro i fr acc v H hn hf hi hacc ha hT hcut hd
    by_cases hend : i = s.length
    · refine W_loopN hL ?_
      subst hend
      have hlt : ((s.length : Int) < (s.length : Int)) = False := eq_false (by omega)
      have e0 : cutDD (s.drop fr) = none := by rw [hcut, List.drop_length]; rfl
      rw [cellsL_eq, e0] at hT
      simp only [Tryd.fn38_l1, Tryd.fn38_r4, hlt, AmR, kp, pushA, exe, Arg.val, Env.at, lk, putd, ok1, okM, abin, Option.getD_some, if_true, if_false, reduceCtorEq, Nat.reduceEqDiff, decide_false]
      exact hd fr acc v H _ _ hf hacc ha hT
    refine W_loopN hL ?_
    obtain ⟨c, hc⟩ : ∃ c, s[i]? = some c := ⟨_, List.getElem?_eq_getElem (by omega)⟩
    have hlt : ((i : Int) < (s.length : Int)) = True := eq_true (by omega)
    have h0 : (0 : Int) ≤ (i : Int) := by omega
    have h01 : (0 : Int) ≤ ((i + 1 : Nat) : Int) := by omega
    have hw := succ_wrap (i := i) (by omega)
    have hcz := beq32 c
    have hnez : ((c.toNat : Int) != 32) = !(c == 32) := by rw [← hcz]; rfl
    -- no two blanks here
    have go : ¬ (c = 32 ∧ (s.drop (i + 1)).head? = some 32) → W Tryd.call K (.code L :: .block 0 :: ks) [(0, .str s), (3, v), (4, .int .i64 fr), (5, .int .i64 ((i + 1 : Nat) : Int))] H .skip := by
      intro hno
      simp only [W_skip, Nx_code]
      refine ih (i + 1) fr acc v H (by omega) (by omega) (by omega) hacc ha hT ?_ hd
      rw [hcut, drop_cons' hc, cutDD, if_neg hno]
      have e1 : (s.drop fr).take (i + 1 - fr) = (s.drop fr).take (i - fr) ++ [c] := by
        rw [show i + 1 - fr = (i - fr) + 1 by omega, List.take_add_one, List.getElem?_drop, show fr + (i - fr) = i by omega, hc]
        rfl
      rw [e1]
      cases cutDD (s.drop (i + 1)) with
      | none => rfl
      | some p => simp
    simp only [W_skip, Nx_code] at go
    by_cases hc32 : c = 32
    · subst hc32
      have hnz : (((32 : UInt8).toNat : Int) != 32) = false := rfl
      by_cases hl : i + 1 = s.length
      · have e1 : (((i + 1 : Nat) : Int) == (s.length : Int)) = true := by rw [beq_iff_eq]; omega
        simp only [Tryd.fn38_l1, Tryd.fn38_r4, hlt, AmR, kp, pushA, exe, Arg.val, Env.at, lk, putd, ok1, okM, abin, Option.getD_some, if_true, if_false, reduceCtorEq, Nat.reduceEqDiff, decide_true]
        simp only [Tryd.fn38_r5, h0, Int.toNat_natCast, hc, hnz, hw, e1, AmR, kp, exe, Arg.val, Env.at, lk, putd, ok1, okM, abin, Option.getD_some, if_true, if_false, reduceCtorEq, Nat.reduceEqDiff, Option.map_some]
        simp only [Tryd.fn38_r6, AmR, kp, pushA, exe, Arg.val, Env.at, lk, putd, ok1, Option.getD_some, if_true, if_false, reduceCtorEq, Nat.reduceEqDiff, Bool.false_eq_true]
        simp only [Tryd.fn38_r7, hw, AmR, kp, exe, Arg.val, Env.at, lk, putd, ok1, okM, abin, Option.getD_some, if_true, if_false, reduceCtorEq, Nat.reduceEqDiff]
        exact go (fun h => by rw [hl, List.drop_length] at h; simp at h)
      · have e1 : (((i + 1 : Nat) : Int) == (s.length : Int)) = false := beq_eq_false_iff_ne.2 (by omega)
        obtain ⟨d, hd1⟩ : ∃ d, s[i + 1]? = some d := ⟨_, List.getElem?_eq_getElem (by omega)⟩
        have hhd : (s.drop (i + 1)).head? = some d := by rw [drop_cons' hd1]; rfl
        have hdz : ((d.toNat : Int) != 32) = !(d == 32) := by rw [← beq32 d]; rfl
        by_cases hd32 : d = 32
        · subst hd32
          have hnd : (((32 : UInt8).toNat : Int) != 32) = false := rfl
          have ecut : cutDD (s.drop i) = some ([], s.drop i) := by rw [drop_cons' hc, cutDD, if_pos ⟨rfl, hhd⟩]
          rw [ecut] at hcut
          simp only [Option.map_some, List.append_nil] at hcut
          rw [cellsL_eq, hcut] at hT
          have hb1 := bnds_in (n := s.length) hf hi
          have hlen1 : ((s.drop fr).take (i - fr)).length = i - fr := by simp; omega
          obtain ⟨v', H', a1, a2, a3⟩ := ha.snoc ((s.drop fr).take (i - fr)) (by omega)
          have c1 : (H.push 9 true [.str ((s.drop fr).take (i - fr))]).cellsAt H.next 0 1 = some [.str ((s.drop fr).take (i - fr))] := cellsAt_new _ _ _ _ rfl
          simp only [Tryd.fn38_l1, Tryd.fn38_r4, hlt, AmR, kp, pushA, exe, Arg.val, Env.at, lk, putd, ok1, okM, abin, Option.getD_some, if_true, if_false, reduceCtorEq, Nat.reduceEqDiff, decide_true]
          simp only [Tryd.fn38_r5, h0, Int.toNat_natCast, hc, hnz, hw, e1, AmR, kp, exe, Arg.val, Env.at, lk, putd, ok1, okM, abin, Option.getD_some, if_true, if_false, reduceCtorEq, Nat.reduceEqDiff, Option.map_some]
          simp only [Tryd.fn38_r6, hw, h01, Int.toNat_natCast, hd1, hnd, AmR, kp, pushA, exe, Arg.val, Env.at, lk, putd, ok1, okM, abin, Option.getD_some, if_true, if_false, reduceCtorEq, Nat.reduceEqDiff, Bool.false_eq_true, Option.map_some]
          simp only [Tryd.fn38_r8, hb1, takeFrom, c1, a1, AmR, kp, exe, Arg.val, Env.at, lk, putd, AV.cells?, ok1, Option.getD_some, if_true, if_false, reduceCtorEq, Nat.reduceEqDiff, Nat.reduceAdd, Nat.reduceMul, Bool.true_eq_false, and_true, List.append_nil, Nat.reduceLeDiff, List.map_cons, List.map_nil, putAt, solid, List.all_cons, List.all_nil, Bool.and_self, List.length_cons, List.length_nil, Option.map_some, afill, rep, List.reduceReplicate, List.flatten_cons, List.flatten_nil, List.set_cons_zero]
          refine Tryd.skipLoop s hs v' H' K _ _ rfl (s.length - i) i (by omega) fun i' w k1 k2 k3 => ?_
          have hdrop2 : i + 2 ≤ i' := by
            have e2 : (s.drop i).dropWhile (· == 32) = (s.drop (i + 2)).dropWhile (· == 32) := by rw [drop_cons' hc, drop_cons' hd1]; simp
            have e3 := dropWhile_le (s.drop (i + 2)) (· == 32)
            rw [← e2, ← k3, List.length_drop, List.length_drop] at e3
            omega
          simp only [Tryd.fn38_r11, AmR, kp, exe, Arg.val, Env.at, lk, putd, ok1, Option.getD_some, if_true, if_false, reduceCtorEq, Nat.reduceEqDiff]
          refine ih i' i' (acc ++ [(s.drop fr).take (i - fr)]) v' H' (by omega) (Nat.le_refl _) k1 (by simp; omega) a2 (by rw [k3, ← hT]; simp) ?_ hd
          rw [Nat.sub_self, List.take_zero]
          cases cutDD (s.drop i') with
          | none => rfl
          | some p => simp
        · have hnd : ((d.toNat : Int) != 32) = true := by rw [hdz, beq_eq_false_iff_ne.2 hd32]; rfl
          simp only [Tryd.fn38_l1, Tryd.fn38_r4, hlt, AmR, kp, pushA, exe, Arg.val, Env.at, lk, putd, ok1, okM, abin, Option.getD_some, if_true, if_false, reduceCtorEq, Nat.reduceEqDiff, decide_true]
          simp only [Tryd.fn38_r5, h0, Int.toNat_natCast, hc, hnz, hw, e1, AmR, kp, exe, Arg.val, Env.at, lk, putd, ok1, okM, abin, Option.getD_some, if_true, if_false, reduceCtorEq, Nat.reduceEqDiff, Option.map_some]
          simp only [Tryd.fn38_r6, hw, h01, Int.toNat_natCast, hd1, hnd, AmR, kp, pushA, exe, Arg.val, Env.at, lk, putd, ok1, okM, abin, Option.getD_some, if_true, if_false, reduceCtorEq, Nat.reduceEqDiff, Bool.false_eq_true, Option.map_some]
          simp only [Tryd.fn38_r7, hw, AmR, kp, exe, Arg.val, Env.at, lk, putd, ok1, okM, abin, Option.getD_some, if_true, if_false, reduceCtorEq, Nat.reduceEqDiff]
          exact go (fun h => hd32 (by rw [hhd] at h; simpa using h.2))
    · have hnz : ((c.toNat : Int) != 32) = true := by rw [hnez, beq_eq_false_iff_ne.2 hc32]; rfl
      simp only [Tryd.fn38_l1, Tryd.fn38_r4, hlt, AmR, kp, pushA, exe, Arg.val, Env.at, lk, putd, ok1, okM, abin, Option.getD_some, if_true, if_false, reduceCtorEq, Nat.reduceEqDiff, decide_true]
      simp only [Tryd.fn38_r5, h0, Int.toNat_natCast, hc, hnz, AmR, kp, exe, Arg.val, Env.at, lk, putd, ok1, okM, abin, Option.getD_some, if_true, if_false, reduceCtorEq, Nat.reduceEqDiff, Option.map_some]
      simp only [Tryd.fn38_r6, AmR, kp, pushA, exe, Arg.val, Env.at, lk, putd, ok1, Option.getD_some, if_true, if_false, reduceCtorEq, Nat.reduceEqDiff]
      simp only [Tryd.fn38_r7, hw, AmR, kp, exe, Arg.val, Env.at, lk, putd, ok1, okM, abin, Option.getD_some, if_true, if_false, reduceCtorEq, Nat.reduceEqDiff]
      exact go fun h => hc32 h.1

theorem Tryd.refCellsOf (s : List UInt8) (hs : s.length ≤ 4000000) (H : AH) (hN : Names H) : ∃ u H', Tryd.call 38 [.str s] H = some (.ok u, H') ∧ StrsV H'.next H' u (cellsL s) ∧ Grow H H' ∧ Names H' ∧ ∀ i o z m c, u = .sl i o z m c → H.next ≤ i := by
  obtain ⟨vs, H', ⟨u, rfl, h1, h2, h3, h4⟩, hc⟩ := ecall_vE 6 [] (lk Tryd.ext) (lk Tryd.tab) (f := 38) (fn := Tryd.fn38) (args := [.str s]) (H := H) (R := fun vs H' => ∃ u, vs = [u] ∧ StrsV H'.next H' u (cellsL s) ∧ Grow H H' ∧ Names H' ∧ ∀ i o z m c, u = .sl i o z m c → H.next ≤ i) rfl rfl rfl (views_flat rfl (views_nil H 6)) (by
    show W Tryd.call _ _ _ _ _
    simp only [Tryd.fn38, Tryd.fn38_r0, AmR, kp, exe, number, Arg.val, Env.at, lk, putd, ok1, Option.getD_some, if_true, if_false, reduceCtorEq, List.append_nil]
    simp only [Tryd.fn38_r1, AmR, kp, exe, Arg.val, Env.at, lk, putd, ok1, Option.getD_some, if_true, if_false, reduceCtorEq, Nat.reduceEqDiff, List.map_nil, afill, rep, List.reduceReplicate, List.flatten_nil]
    simp only [Tryd.fn38_r2, AmR, kp, exe, Arg.val, Env.at, lk, putd, ok1, Option.getD_some, if_true, if_false, reduceCtorEq, Nat.reduceEqDiff]
    simp only [Tryd.fn38_r3, AmR, kp, exe, Arg.val, Env.at, lk, putd, ok1, Option.getD_some, if_true, if_false, reduceCtorEq, Nat.reduceEqDiff]
    have ho : AccV 6 ((⟨[], 6, 6⟩ : AH).push 9 true []) (.sl 6 0 1 0 (some 0)) [] := ⟨by omega, Nat.le_refl _, Nat.le_succ _, .inr ⟨6, some 0, Nat.le_refl _, rfl, own_new ⟨[], 6, 6⟩ 9 true [] (some 0) (by omega) rfl (.inl rfl) (Nat.le_refl _)⟩⟩
    refine Tryd.refCellsLoop s hs 6 _ _ _ rfl (cellsL s) s.length 0 0 [] _ _ (by omega) (Nat.le_refl _) (Nat.zero_le _) (Nat.le_refl _) ho (by simp) (by cases hx : cutDD (s.drop 0) with | none => rfl | some p => simp) fun fr' acc' v' H' a b k1 k2 k3 k4 => ?_
    have hb2 := bnds_lo (n := s.length) k1
    have ht2 : (s.drop fr').take (s.length - fr') = s.drop fr' := List.take_of_length_le (by simp)
    obtain ⟨v2, H2, a1, a2, a3⟩ := k3.snoc (s.drop fr') (by omega)
    have c1 : (H'.push 9 true [.str (s.drop fr')]).cellsAt H'.next 0 1 = some [.str (s.drop fr')] := cellsAt_new _ _ _ _ rfl
    simp only [Tryd.fn38_r12, hb2, ht2, takeFrom, c1, a1, endK_ret, AmR, kp, exe, Arg.val, Env.at, lk, putd, AV.cells?, ok1, Option.getD_some, if_true, if_false, reduceCtorEq, Nat.reduceEqDiff, Nat.reduceAdd, Nat.reduceMul, Bool.true_eq_false, resAll, resOf, Option.some.injEq, and_true, List.append_nil, Nat.reduceLeDiff, List.map_cons, List.map_nil, putAt, solid, List.all_cons, List.all_nil, Bool.and_self, List.length_cons, List.length_nil, Option.map_some, Option.map_none, afill, rep, exists_eq_left', List.reduceReplicate, List.flatten_cons, List.flatten_nil, List.set_cons_zero]
    rw [k4] at a2
    exact a2.back (Nat.le_refl _) rfl hN fun u H'' k1 k2 k3 k4 => ⟨u, rfl, k1, k2, k3, k4⟩)
  exact ⟨u, H', hc, h1, h2, h3, h4⟩

/-! ### Lines -/

theorem Tryd.linesLoop (s : List UInt8) (hs : s.length ≤ 4000000) (lo : Nat) (K : AX → St → Prop) (ks : List Fr) (L : ACode) (hL : L = .loop (some [0, 4, 5, 6]) Tryd.fn37_l0) (T : List (List UInt8) × List UInt8) :
    ∀ (n i fr : Nat) (acc : List (List UInt8)) (v : AV) (H : AH), n + i = s.length → fr ≤ i → acc.length ≤ fr → AccV lo H v acc → (acc ++ (linesL (s.drop fr)).1, (linesL (s.drop fr)).2) = T → (10 : UInt8) ∉ (s.drop fr).take (i - fr) →
      (∀ (fr' : Nat) v' H' a b, fr' ≤ s.length → T.1.length ≤ fr' → AccV lo H' v' T.1 → s.drop fr' = T.2 → Nx Tryd.call K ks [(11, .bool false), (0, .str s), (4, v'), (5, .int .i64 fr'), (6, a), (11, b)] H') →
      W Tryd.call K (.block 0 :: ks) [(0, .str s), (4, v), (5, .int .i64 fr), (6, .int .i64 i)] H L := by
  intro n
  induction n with
  | zero =>
    intro i fr acc v H hi hf hacc ha hT hno hd
    refine W_loopN hL ?_
    have hi' : i = s.length := by omega
    subst hi'
    have hlt : ((s.length : Int) < (s.length : Int)) = False := eq_false (by omega)
    have e1 : (s.drop fr).take (s.length - fr) = s.drop fr := List.take_of_length_le (by simp)
    rw [e1] at hno
    rw [linesL_rest _ hno] at hT
    subst hT
    simp only [Tryd.fn37_l0, Tryd.fn37_r4, hlt, AmR, kp, pushA, exe, Arg.val, Env.at, lk, putd, ok1, okM, abin, Option.getD_some, if_true, if_false, reduceCtorEq, Nat.reduceEqDiff, decide_false]
    exact hd fr v H _ _ hf (by simpa using hacc) (by simpa using ha) rfl
  | succ n ih =>
    intro i fr acc v H hi hf hacc ha hT hno hd
    refine W_loopN hL ?_
    obtain ⟨c, hc⟩ : ∃ c, s[i]? = some c := ⟨_, List.getElem?_eq_getElem (by omega)⟩
    have hlt : ((i : Int) < (s.length : Int)) = True := eq_true (by omega)
    have h0 : (0 : Int) ≤ (i : Int) := by omega
    have hw := succ_wrap (i := i) (by omega)
    simp only [Tryd.fn37_l0, Tryd.fn37_r4, hlt, AmR, kp, pushA, exe, Arg.val, Env.at, lk, putd, ok1, okM, abin, Option.getD_some, if_true, if_false, reduceCtorEq, Nat.reduceEqDiff, decide_true]
    by_cases hc10 : c = 10
    · subst hc10
      have e1 : (((10 : UInt8).toNat : Int) == 10) = true := rfl
      have hb1 := bnds_in (n := s.length) hf (show i ≤ s.length by omega)
      obtain ⟨v', H', a1, a2, a3⟩ := ha.snoc ((s.drop fr).take (i - fr)) (by omega)
      have c1 : (H.push 9 true [.str ((s.drop fr).take (i - fr))]).cellsAt H.next 0 1 = some [.str ((s.drop fr).take (i - fr))] := cellsAt_new _ _ _ _ rfl
      simp only [Tryd.fn37_r5, h0, Int.toNat_natCast, hc, e1, AmR, kp, pushA, exe, Arg.val, Env.at, lk, putd, ok1, okM, abin, Option.getD_some, if_true, if_false, reduceCtorEq, Nat.reduceEqDiff, Option.map_some]
      simp only [Tryd.fn37_r6, hb1, takeFrom, c1, a1, AmR, kp, exe, Arg.val, Env.at, lk, putd, AV.cells?, ok1, Option.getD_some, if_true, if_false, reduceCtorEq, Nat.reduceEqDiff, Nat.reduceAdd, Nat.reduceMul, Bool.true_eq_false, and_true, List.append_nil, Nat.reduceLeDiff, List.map_cons, List.map_nil, putAt, solid, List.all_cons, List.all_nil, Bool.and_self, List.length_cons, List.length_nil, Option.map_some, afill, rep, List.reduceReplicate, List.flatten_cons, List.flatten_nil, List.set_cons_zero]
      simp only [Tryd.fn37_r7, hw, AmR, kp, exe, Arg.val, Env.at, lk, putd, ok1, okM, abin, Option.getD_some, if_true, if_false, reduceCtorEq, Nat.reduceEqDiff]
      simp only [Tryd.fn37_r8, hw, AmR, kp, exe, Arg.val, Env.at, lk, putd, ok1, okM, abin, Option.getD_some, if_true, if_false, reduceCtorEq, Nat.reduceEqDiff]
      have e2 := drop_split (s := s) hf
      rw [drop_cons' hc] at e2
      rw [e2, linesL_line _ _ hno] at hT
      exact ih (i + 1) (i + 1) (acc ++ [(s.drop fr).take (i - fr)]) v' H' (by omega) (Nat.le_refl _) (by simp; omega) a2 (by rw [← hT]; simp) (by simp) hd
    · have e1 : ((c.toNat : Int) == 10) = false := beq_eq_false_iff_ne.2 fun e => hc10 (UInt8.toNat_inj.1 (by have h10 : (10 : UInt8).toNat = 10 := rfl; omega))
      simp only [Tryd.fn37_r5, h0, Int.toNat_natCast, hc, e1, AmR, kp, pushA, exe, Arg.val, Env.at, lk, putd, ok1, okM, abin, Option.getD_some, if_true, if_false, reduceCtorEq, Nat.reduceEqDiff, Option.map_some]
      simp only [Tryd.fn37_r8, hw, AmR, kp, exe, Arg.val, Env.at, lk, putd, ok1, okM, abin, Option.getD_some, if_true, if_false, reduceCtorEq, Nat.reduceEqDiff]
      refine ih (i + 1) fr acc v H (by omega) (by omega) hacc ha hT ?_ hd
      rw [show i + 1 - fr = (i - fr) + 1 by omega, List.take_add_one, List.getElem?_drop, show fr + (i - fr) = i by omega, hc]
      simp only [Option.toList_some, List.mem_append, List.mem_singleton, not_or]
      exact ⟨hno, fun e => hc10 e.symm⟩

/-- The lines, and what follows the last line feed, if there is something. -/
def linesR (s : List UInt8) : List (List UInt8) := (linesL s).1 ++ (if (linesL s).2 = [] then [] else [(linesL s).2])

theorem Tryd.linesOf (s : List UInt8) (hs : s.length ≤ 4000000) (H : AH) (hN : Names H) : ∃ u H', Tryd.call 37 [.str s] H = some (.ok (.tup [u, .bool (decide ((linesL s).2 = []))]), H') ∧ StrsV H'.next H' u (linesR s) ∧ Grow H H' ∧ Names H' := by
  obtain ⟨vs, H', ⟨u, rfl, h1, h2, h3⟩, hc⟩ := ecall_vE 6 [] (lk Tryd.ext) (lk Tryd.tab) (f := 37) (fn := Tryd.fn37) (args := [.str s]) (H := H) (R := fun vs H' => ∃ u, vs = [u, .bool (decide ((linesL s).2 = []))] ∧ StrsV H'.next H' u (linesR s) ∧ Grow H H' ∧ Names H') rfl rfl rfl (views_flat rfl (views_nil H 6)) (by
    show W Tryd.call _ _ _ _ _
    simp only [Tryd.fn37, Tryd.fn37_r0, AmR, kp, exe, number, Arg.val, Env.at, lk, putd, ok1, Option.getD_some, if_true, if_false, reduceCtorEq, List.append_nil]
    simp only [Tryd.fn37_r1, AmR, kp, exe, Arg.val, Env.at, lk, putd, ok1, Option.getD_some, if_true, if_false, reduceCtorEq, Nat.reduceEqDiff, List.map_nil, afill, rep, List.reduceReplicate, List.flatten_nil]
    simp only [Tryd.fn37_r2, AmR, kp, exe, Arg.val, Env.at, lk, putd, ok1, Option.getD_some, if_true, if_false, reduceCtorEq, Nat.reduceEqDiff]
    simp only [Tryd.fn37_r3, AmR, kp, exe, Arg.val, Env.at, lk, putd, ok1, Option.getD_some, if_true, if_false, reduceCtorEq, Nat.reduceEqDiff]
    have ho : AccV 6 ((⟨[], 6, 6⟩ : AH).push 9 true []) (.sl 6 0 1 0 (some 0)) [] := ⟨by omega, Nat.le_refl _, Nat.le_succ _, .inr ⟨6, some 0, Nat.le_refl _, rfl, own_new ⟨[], 6, 6⟩ 9 true [] (some 0) (by omega) rfl (.inl rfl) (Nat.le_refl _)⟩⟩
    refine Tryd.linesLoop s hs 6 _ _ _ rfl (linesL s) s.length 0 0 [] _ _ (by omega) (Nat.le_refl _) (Nat.le_refl _) ho (by simp) (by simp) fun fr' v' H' a b k1 k2 k3 k4 => ?_
    by_cases hr : (linesL s).2 = []
    · have hfr : fr' = s.length := by
        rw [hr] at k4
        have := congrArg List.length k4
        simp at this; omega
      subst hfr
      have hlt : ((s.length : Int) < (s.length : Int)) = False := eq_false (by omega)
      simp only [Tryd.fn37_r9, hlt, AmR, kp, pushA, exe, Arg.val, Env.at, lk, putd, ok1, okM, abin, Option.getD_some, if_true, if_false, reduceCtorEq, Nat.reduceEqDiff, decide_false]
      simp only [Tryd.fn37_r11, endK_ret, AmR, kp, exe, Arg.val, Env.at, lk, putd, ok1, Option.getD_some, if_true, if_false, reduceCtorEq, Nat.reduceEqDiff, resAll, resOf, Option.some.injEq, exists_eq_left']
      have hd : decide ((linesL s).2 = []) = true := decide_eq_true hr
      have hl : linesR s = (linesL s).1 := by simp [linesR, hr]
      rw [hd, hl]
      exact k3.back (Nat.le_refl _) rfl hN fun u H'' k1 k2 k3 k4 => ⟨u, rfl, k1, k2, k3⟩
    · have hfr : fr' < s.length := by
        by_cases hlt : fr' < s.length
        · exact hlt
        · rw [List.drop_of_length_le (by omega)] at k4; exact absurd k4.symm hr
      have hlt : ((fr' : Int) < (s.length : Int)) = True := eq_true (by omega)
      have hb2 := bnds_lo (n := s.length) k1
      have ht2 : (s.drop fr').take (s.length - fr') = (linesL s).2 := by rw [List.take_of_length_le (by simp)]; exact k4
      obtain ⟨v2, H2, a1, a2, a3⟩ := k3.snoc (linesL s).2 (by omega)
      have c1 : (H'.push 9 true [.str (linesL s).2]).cellsAt H'.next 0 1 = some [.str (linesL s).2] := cellsAt_new _ _ _ _ rfl
      simp only [Tryd.fn37_r9, hlt, AmR, kp, pushA, exe, Arg.val, Env.at, lk, putd, ok1, okM, abin, Option.getD_some, if_true, if_false, reduceCtorEq, Nat.reduceEqDiff, decide_true]
      simp only [Tryd.fn37_r10, hb2, ht2, takeFrom, c1, a1, endK_ret, AmR, kp, exe, Arg.val, Env.at, lk, putd, AV.cells?, ok1, Option.getD_some, if_true, if_false, reduceCtorEq, Nat.reduceEqDiff, Nat.reduceAdd, Nat.reduceMul, Bool.true_eq_false, resAll, resOf, Option.some.injEq, and_true, List.append_nil, Nat.reduceLeDiff, List.map_cons, List.map_nil, putAt, solid, List.all_cons, List.all_nil, Bool.and_self, List.length_cons, List.length_nil, Option.map_some, Option.map_none, afill, rep, exists_eq_left', List.reduceReplicate, List.flatten_cons, List.flatten_nil, List.set_cons_zero]
      have hd : decide ((linesL s).2 = []) = false := decide_eq_false hr
      have hl : linesR s = (linesL s).1 ++ [(linesL s).2] := by simp [linesR, hr]
      rw [hd, hl]
      exact a2.back (Nat.le_refl _) rfl hN fun u H'' k1 k2 k3 k4 => ⟨u, rfl, k1, k2, k3⟩)
  exact ⟨u, H', hc, h1, h2, h3⟩

end Go.Am
