/-
Quote of the specification. Conditions: none.
-/
import Derived.Test.YtolilamofgildaaDoorAmKh
import Derived.Test.YtolilamofgildaaDoorMc
set_option linter.unusedSimpArgs false
set_option linter.unusedVariables false
namespace Go.Am

theorem u8_div16 (c : UInt8) : IntKind.u8.wrap ((c.toNat : Int).tdiv 16) = ((c.toNat / 16 : Nat) : Int) := by
  have : ∀ n : Fin 256, IntKind.u8.wrap ((n.val : Int).tdiv 16) = ((n.val / 16 : Nat) : Int) := by decide +kernel
  exact this ⟨c.toNat, c.toNat_lt⟩
theorem u8_mod16 (c : UInt8) : (c.toNat : Int).tmod 16 = ((c.toNat % 16 : Nat) : Int) := (Int.ofNat_tmod c.toNat 16).symm

theorem Tryd.quoteRefLoop (d : List UInt8) (hd : d.length ≤ 200000) (K : AX → St → Prop) (ks : List Fr) (L : ACode) (hL : L = .loop (some [0, 3, 4, 5]) Tryd.fn63_l0) : ∀ (n i : Nat) (H : AH) (q m : Nat) (c : Option Nat), n + i = d.length → Own H 5 1 q m c (ofBytes (34 :: (d.take i).flatMap quote1)) → m ≤ 900000 →
    (∀ H' q m c v, Own H' 5 1 q m c (ofBytes (34 :: d.flatMap quote1)) → Nx Tryd.call K ks [(11, .bool false), (0, .str d), (3, .str [48, 49, 50, 51, 52, 53, 54, 55, 56, 57, 97, 98, 99, 100, 101, 102]), (4, .sl q 0 1 m c), (5, .int .i64 d.length), (11, v)] H') →
    W Tryd.call K (.block 0 :: ks) [(0, .str d), (3, .str [48, 49, 50, 51, 52, 53, 54, 55, 56, 57, 97, 98, 99, 100, 101, 102]), (4, .sl q 0 1 m c), (5, .int .i64 i)] H L := by
  intro n
  induction n with
  | zero =>
    intro i H q m c hi hq hm hk
    refine W_loopN hL ?_
    have hi' : i = d.length := by omega
    subst hi'
    simp only [Tryd.fn63_l0, Tryd.fn63_r4, AmR, kp, pushA, exe, Arg.val, Env.at, lk, putd, ok1, okM, abin, Option.getD_some, if_true, if_false, reduceCtorEq, Nat.reduceEqDiff]
    refine ⟨fun h => absurd h (by omega), fun _ => ?_⟩
    rw [List.take_length] at hq
    exact hk _ _ _ _ _ hq
  | succ n ih =>
    intro i H q m cp hi hq hm hk
    refine W_loopN hL ?_
    obtain ⟨c, hc⟩ : ∃ c, d[i]? = some c := ⟨_, List.getElem?_eq_getElem (by omega)⟩
    have h0 : (0 : Int) ≤ (i : Int) := by omega
    have hcb := c.toNat_lt
    have hw : IntKind.i64.wrap ((i : Int) + 1) = ((i + 1 : Nat) : Int) := by rw [IntWalk.i64_in _ (by omega)]; omega
    have hst := quotes_step hc
    have hmm : m = 1 + ((d.take i).flatMap quote1).length := by
      have := hq.2.1; rw [ofBytes_length, List.length_cons] at this; omega
    have hlen : ((d.take i).flatMap quote1).length + 4 ≤ 900000 := by
      have := quotes_len (d.take i)
      have h2 : (d.take i).length ≤ d.length := by rw [List.length_take]; omega
      omega
    have key : ∀ H' q' m', Own H' 5 1 q' m' none (ofBytes (34 :: (d.take i).flatMap quote1) ++ ofBytes (quote1 c)) → W Tryd.call K (.block 0 :: ks) [(0, .str d), (3, .str [48, 49, 50, 51, 52, 53, 54, 55, 56, 57, 97, 98, 99, 100, 101, 102]), (4, .sl q' 0 1 m' none), (5, .int .i64 ((i + 1 : Nat) : Int))] H' L := fun H' q' m' hq' => by
      rw [ofBytes_append] at hq'
      refine ih (i + 1) H' q' m' none (by omega) (by rw [hst]; exact hq') ?_ hk
      have := hq'.2.1
      rw [ofBytes_length, List.length_append, List.length_cons] at this
      have h2 := quotes_len (d.take (i + 1))
      rw [hst, List.length_append] at h2
      have h3 : (d.take (i + 1)).length ≤ d.length := by rw [List.length_take]; omega
      omega
    simp only [Tryd.fn63_l0, Tryd.fn63_r4, AmR, kp, pushA, exe, Arg.val, Env.at, lk, putd, ok1, okM, abin, Option.getD_some, if_true, if_false, reduceCtorEq, Nat.reduceEqDiff]
    refine ⟨fun h => ?_, fun h => absurd h (by omega)⟩
    simp only [Tryd.fn63_r5, h0, Int.toNat_natCast, hc, AmR, kp, exe, Arg.val, Env.at, lk, putd, ok1, okM, Option.getD_some, if_true, if_false, reduceCtorEq, Nat.reduceEqDiff, Option.map_some]
    have esc : c = 34 ∨ c = 92 → ∃ q' H', aapp (H.push 5 true [.int .u8 92, .int .u8 c.toNat]) 5 1 1 (.sl q 0 1 m cp) [.int .u8 92, .int .u8 c.toNat] = some (.ok (.sl q' 0 1 (m + 2) none), H') ∧ Own H' 5 1 q' (m + 2) none (ofBytes (34 :: (d.take i).flatMap quote1) ++ ofBytes (quote1 c)) := fun hc => by
      obtain ⟨q', H', h1, h2, _⟩ := hq.snoc 1 (new := [.int .u8 92, .int .u8 c.toNat]) (m := 2) (by simp) rfl (by omega)
      refine ⟨q', H', h1, ?_⟩
      have : quote1 c = [92, c] := by unfold quote1; rw [if_neg (by rcases hc with rfl | rfl <;> decide), if_pos hc]
      rw [this]
      exact h2
    simp only [Tryd.fn63_r6, AmR, Cd_beq, Rf_beq, kp, pushA, exe, Arg.val, Env.at, lk, putd, ok1, okM, abin, Option.getD_some, if_true, if_false, reduceCtorEq, Nat.reduceEqDiff, Bool.false_eq_true]
    refine ⟨fun h34 => ?_, fun h34 => ⟨fun h92 => ?_, fun h92 => ?_⟩⟩
    · obtain ⟨q', H', ha, ho⟩ := esc (.inl (UInt8.toNat_inj.1 (by show c.toNat = 34; omega)))
      simp only [Tryd.fn63_r7, takeFrom, cellsAt_new, ha, AmR, kp, exe, Arg.val, Env.at, lk, putd, AV.cells?, ok1, Option.getD_some, if_true, if_false, reduceCtorEq, Nat.reduceEqDiff, Nat.reduceAdd, Nat.reduceMul, Bool.true_eq_false, and_true, List.nil_append, List.append_nil, Nat.reduceLeDiff, List.map_cons, List.map_nil, putAt, solid, List.all_cons, List.all_nil, Bool.and_self, List.length_cons, List.length_nil, List.cons_append, afill, rep, List.reduceReplicate, List.flatten_cons, List.flatten_nil, List.set_cons_zero, List.set_cons_succ]
      simp only [Tryd.fn63_r13, hw, AmR, kp, exe, Arg.val, Env.at, lk, putd, ok1, okM, abin, Option.getD_some, if_true, if_false, reduceCtorEq, Nat.reduceEqDiff]
      exact key _ _ _ ho
    · obtain ⟨q', H', ha, ho⟩ := esc (.inr (UInt8.toNat_inj.1 (by show c.toNat = 92; omega)))
      simp only [Tryd.fn63_r7, takeFrom, cellsAt_new, ha, AmR, kp, exe, Arg.val, Env.at, lk, putd, AV.cells?, ok1, Option.getD_some, if_true, if_false, reduceCtorEq, Nat.reduceEqDiff, Nat.reduceAdd, Nat.reduceMul, Bool.true_eq_false, and_true, List.nil_append, List.append_nil, Nat.reduceLeDiff, List.map_cons, List.map_nil, putAt, solid, List.all_cons, List.all_nil, Bool.and_self, List.length_cons, List.length_nil, List.cons_append, afill, rep, List.reduceReplicate, List.flatten_cons, List.flatten_nil, List.set_cons_zero, List.set_cons_succ]
      simp only [Tryd.fn63_r13, hw, AmR, kp, exe, Arg.val, Env.at, lk, putd, ok1, okM, abin, Option.getD_some, if_true, if_false, reduceCtorEq, Nat.reduceEqDiff]
      exact key _ _ _ ho
    · have nq : ¬ (c = 34 ∨ c = 92) := by rintro (rfl | rfl) <;> simp at h34 h92
      simp only [Tryd.fn63_r8, AmR, Cd_beq, kp, pushA, exe, Arg.val, Env.at, lk, putd, ok1, okM, abin, Option.getD_some, if_true, if_false, reduceCtorEq, Nat.reduceEqDiff]
      refine ⟨fun h10 => ?_, fun h10 => ?_⟩
      · have c10 : c = 10 := UInt8.toNat_inj.1 (by show c.toNat = 10; omega)
        obtain ⟨q', H', ha, ho, _⟩ := hq.snoc 1 (new := [.int .u8 92, .int .u8 110]) (m := 2) (by simp) rfl (by omega)
        simp only [Tryd.fn63_r9, takeFrom, cellsAt_new, ha, AmR, kp, exe, Arg.val, Env.at, lk, putd, AV.cells?, ok1, Option.getD_some, if_true, if_false, reduceCtorEq, Nat.reduceEqDiff, Nat.reduceAdd, Nat.reduceMul, Bool.true_eq_false, and_true, List.nil_append, List.append_nil, Nat.reduceLeDiff, List.map_cons, List.map_nil, putAt, solid, List.all_cons, List.all_nil, Bool.and_self, List.length_cons, List.length_nil, List.cons_append, afill, rep, List.reduceReplicate, List.flatten_cons, List.flatten_nil, List.set_cons_zero, List.set_cons_succ]
        simp only [Tryd.fn63_r13, hw, AmR, kp, exe, Arg.val, Env.at, lk, putd, ok1, okM, abin, Option.getD_some, if_true, if_false, reduceCtorEq, Nat.reduceEqDiff]
        refine key _ _ _ ?_
        have : quote1 c = [92, 110] := by rw [c10]; decide
        rw [this]; exact ho
      · have n10 : ¬ c = 10 := by rintro rfl; simp at h10
        obtain ⟨q3, H3, ha3, ho3, _⟩ := hq.snoc 1 (new := [.int .u8 92, .int .u8 120, .int .u8 (hexB (c.toNat / 16)).toNat, .int .u8 (hexB (c.toNat % 16)).toNat]) (m := 4) (by simp) rfl (by omega)
        have a1 : (0 : Int) ≤ ((c.toNat / 16 : Nat) : Int) := by omega
        have a2 : (0 : Int) ≤ ((c.toNat % 16 : Nat) : Int) := by omega
        have x1 := hexB_at (n := c.toNat / 16) (by omega)
        have x2 := hexB_at (n := c.toNat % 16) (by omega)
        simp only [Tryd.fn63_r10, AmR, kp, pushA, exe, Arg.val, Env.at, lk, putd, ok1, okM, abin, Option.getD_some, if_true, if_false, reduceCtorEq, Nat.reduceEqDiff, Bool.false_eq_true]
        refine ⟨fun h => ?_, fun h => ⟨fun h' => ?_, fun h' => ?_⟩⟩
        · refine W_drawn' (by kernel_rfl) ?_
          simp only [Tryd.fn63_r11, Tryd.fn63_r11a, u8_div16, u8_mod16, a1, a2, Int.toNat_natCast, x1, x2, takeFrom, cellsAt_new, AH.eta, ha3, AmR, kp, exe, Arg.val, Env.at, lk, putd, AV.cells?, ok1, okM, abin, Option.getD_some, if_true, if_false, reduceCtorEq, Nat.reduceEqDiff, Nat.reduceAdd, Nat.reduceMul, Bool.true_eq_false, and_true, true_and, List.nil_append, List.append_nil, visH, List.flatMap_nil, Nat.reduceLeDiff, List.map_cons, List.map_nil, putAt, solid, List.all_cons, List.all_nil, Bool.and_self, List.length_cons, List.length_nil, Option.map_some, List.cons_append, afill, rep, Int.reduceEq, List.reduceReplicate, List.flatten_cons, List.flatten_nil, List.set_cons_zero, List.set_cons_succ]
          simp only [Tryd.fn63_r13, hw, AmR, kp, exe, Arg.val, Env.at, lk, putd, ok1, okM, abin, Option.getD_some, if_true, if_false, reduceCtorEq, Nat.reduceEqDiff]
          refine key _ _ _ ?_
          have : quote1 c = [92, 120, hexB (c.toNat / 16), hexB (c.toNat % 16)] := by unfold quote1; rw [if_neg (by unfold plainB; rw [decide_eq_true_iff]; omega), if_neg nq, if_neg n10]
          rw [this]
          exact ho3
        · refine W_drawn' (by kernel_rfl) ?_
          simp only [Tryd.fn63_r11, Tryd.fn63_r11a, u8_div16, u8_mod16, a1, a2, Int.toNat_natCast, x1, x2, takeFrom, cellsAt_new, AH.eta, ha3, AmR, kp, exe, Arg.val, Env.at, lk, putd, AV.cells?, ok1, okM, abin, Option.getD_some, if_true, if_false, reduceCtorEq, Nat.reduceEqDiff, Nat.reduceAdd, Nat.reduceMul, Bool.true_eq_false, and_true, true_and, List.nil_append, List.append_nil, visH, List.flatMap_nil, Nat.reduceLeDiff, List.map_cons, List.map_nil, putAt, solid, List.all_cons, List.all_nil, Bool.and_self, List.length_cons, List.length_nil, Option.map_some, List.cons_append, afill, rep, Int.reduceEq, List.reduceReplicate, List.flatten_cons, List.flatten_nil, List.set_cons_zero, List.set_cons_succ]
          simp only [Tryd.fn63_r13, hw, AmR, kp, exe, Arg.val, Env.at, lk, putd, ok1, okM, abin, Option.getD_some, if_true, if_false, reduceCtorEq, Nat.reduceEqDiff]
          refine key _ _ _ ?_
          have : quote1 c = [92, 120, hexB (c.toNat / 16), hexB (c.toNat % 16)] := by unfold quote1; rw [if_neg (by unfold plainB; rw [decide_eq_true_iff]; omega), if_neg nq, if_neg n10]
          rw [this]
          exact ho3
        · obtain ⟨q4, H4, ha4, ho4, _⟩ := hq.snoc 1 (new := [.int .u8 c.toNat]) (m := 1) (by simp) rfl (by omega)
          simp only [Tryd.fn63_r12, takeFrom, cellsAt_new, ha4, AmR, kp, exe, Arg.val, Env.at, lk, putd, AV.cells?, ok1, Option.getD_some, if_true, if_false, reduceCtorEq, Nat.reduceEqDiff, Nat.reduceAdd, Nat.reduceMul, Bool.true_eq_false, and_true, List.append_nil, Nat.reduceLeDiff, List.map_cons, List.map_nil, putAt, solid, List.all_cons, List.all_nil, Bool.and_self, List.length_cons, List.length_nil, afill, rep, List.reduceReplicate, List.flatten_cons, List.flatten_nil, List.set_cons_zero]
          simp only [Tryd.fn63_r13, hw, AmR, kp, exe, Arg.val, Env.at, lk, putd, ok1, okM, abin, Option.getD_some, if_true, if_false, reduceCtorEq, Nat.reduceEqDiff]
          refine key _ _ _ ?_
          have : quote1 c = [c] := by
            unfold quote1
            rw [if_pos (by unfold plainB; refine decide_eq_true ?_; omega)]
          rw [this]; exact ho4

theorem Tryd.quoteRef (d : List UInt8) (hd : d.length ≤ 200000) (H : AH) : Tryd.call 63 [.str d] H = some (.ok (.str (quoteL d)), H) := by
  refine ecall_flat 6 [] _ _ (out := [.str (quoteL d)]) rfl rfl rfl (views_flat rfl (views_nil H 6)) rfl ?_
  show W Tryd.call _ _ _ _ _
  simp only [Tryd.fn63, AmR, number, List.append_nil]
  simp only [Tryd.fn63_r0, AmR, kp, exe, Arg.val, Env.at, lk, putd, ok1, Option.getD_some, if_true, if_false, reduceCtorEq]
  simp only [Tryd.fn63_r1, AmR, kp, exe, Arg.val, Env.at, lk, putd, ok1, Option.getD_some, if_true, if_false, reduceCtorEq]
  simp only [Tryd.fn63_r2, AmR, kp, exe, Arg.val, Env.at, lk, putd, AV.cells?, ok1, AH.push, Option.getD_some, if_true, if_false, reduceCtorEq, Nat.reduceEqDiff, Nat.reduceAdd, and_true, List.append_nil, Nat.reduceLeDiff, List.map_cons, List.map_nil, putAt, List.length_cons, List.length_nil, afill, rep, List.reduceReplicate, List.flatten_cons, List.flatten_nil, List.set_cons_zero]
  simp only [Tryd.fn63_r3, AmR, kp, exe, Arg.val, Env.at, lk, putd, ok1, Option.getD_some, if_true, if_false, reduceCtorEq, Nat.reduceEqDiff]
  have ho : Own (AH.push ⟨[], 6, 6⟩ 5 true (ofBytes (34 :: (d.take 0).flatMap quote1))) 5 1 6 1 (some 1) (ofBytes (34 :: (d.take 0).flatMap quote1)) := own_new ⟨[], 6, 6⟩ 5 true _ _ (by decide) rfl (.inl rfl) (Nat.le_refl _)
  refine Tryd.quoteRefLoop d hd _ _ _ rfl d.length 0 _ 6 1 (some 1) (by omega) ho (by omega) ?_
  intro H2 q m c v ho2
  have hm : m = 1 + (d.flatMap quote1).length := by
    have := ho2.2.1; rw [ofBytes_length, List.length_cons] at this; omega
  have hq := quotes_len d
  obtain ⟨q3, H3, ha3, ho3, _⟩ := ho2.snoc 1 (new := [.int .u8 34]) (m := 1) (by simp) rfl (by omega)
  have hc : H3.cellsAt q3 0 ((m + 1) * 1) = some (ofBytes (quoteL d)) := by
    rw [ho3.cells]
    simp [ofBytes, quoteL]
  simp only [Tryd.fn63_r14, takeFrom, cellsAt_new, ha3, hc, toBytes_of, AmR, kp, exe, Arg.val, Env.at, lk, putd, AV.cells?, ok1, okM, Option.getD_some, if_true, if_false, reduceCtorEq, Nat.reduceEqDiff, Nat.reduceAdd, Nat.reduceMul, Bool.true_eq_false, resAll, resOf, and_true, List.append_nil, Nat.reduceLeDiff, List.map_cons, List.map_nil, putAt, solid, List.all_cons, List.all_nil, Bool.and_self, List.length_cons, List.length_nil, Option.map_some, afill, rep, List.reduceReplicate, List.flatten_cons, List.flatten_nil, List.set_cons_zero]

end Go.Am
