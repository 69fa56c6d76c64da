/-
Unquote of the specification. Conditions: those that each theorem names.
-/
import Derived.Test.YtodonjfcaimgiaaDoorAmPf
set_option linter.unusedSimpArgs false
set_option linter.unusedVariables false
namespace Go.Am

/-- What has been read of w, up to i. -/
def RInv (w : List UInt8) (i : Nat) (out : List UInt8) : Prop := ∀ d, w = quoteL d → ∃ d2, w.drop i = d2.flatMap quote1 ++ [34] ∧ d = out ++ d2

theorem RInv.step {w out : List UInt8} {i n : Nat} {c b : UInt8} (h : RInv w i out) (hc : w[i]? = some c) (h34 : c ≠ 34) (hs : stepU (w.drop i) = some (b, n)) : RInv w (i + n) (out ++ [b]) := by
  intro d hd
  obtain ⟨d2, h1, rfl⟩ := h d hd
  cases d2 with
  | nil =>
    rw [drop_at hc, List.flatMap_nil, List.nil_append, List.cons.injEq] at h1
    exact absurd h1.1 h34
  | cons x d3 =>
    rw [h1, List.flatMap_cons, List.append_assoc, stepU_quote, Option.some.injEq, Prod.mk.injEq] at hs
    obtain ⟨rfl, rfl⟩ := hs
    refine ⟨d3, ?_, by simp⟩
    rw [← List.drop_drop, h1, List.flatMap_cons, List.append_assoc, List.drop_left]
theorem RInv.fail {w out : List UInt8} {i : Nat} {c : UInt8} (h : RInv w i out) (hc : w[i]? = some c) (h34 : c ≠ 34) (hs : stepU (w.drop i) = none) : ∀ d, w ≠ quoteL d := by
  intro d hd
  obtain ⟨d2, h1, rfl⟩ := h d hd
  cases d2 with
  | nil =>
    rw [drop_at hc, List.flatMap_nil, List.nil_append, List.cons.injEq] at h1
    exact h34 h1.1
  | cons x d3 =>
    rw [h1, List.flatMap_cons, List.append_assoc, stepU_quote] at hs
    cases hs
theorem RInv.stop {w out : List UInt8} {i : Nat} (h : RInv w i out) (hc : w[i]? = some 34) : ∀ d, w = quoteL d → out = d ∧ i + 1 = w.length := by
  intro d hd
  obtain ⟨d2, h1, rfl⟩ := h d hd
  cases d2 with
  | nil =>
    have := congrArg List.length h1
    rw [List.length_drop, List.flatMap_nil, List.nil_append, List.length_singleton] at this
    exact ⟨by simp, by omega⟩
  | cons x d3 =>
    have h2 := congrArg List.head? h1
    rw [drop_at hc, List.head?_cons, List.flatMap_cons, List.append_assoc, head_app _ (List.length_pos_iff.1 (quote1_pos x))] at h2
    exact absurd h2.symm (quote1_head x)
theorem RInv.done {w out : List UInt8} {i : Nat} (h : RInv w i out) (hi : w.length ≤ i) : ∀ d, w ≠ quoteL d := by
  intro d hd
  obtain ⟨d2, h1, rfl⟩ := h d hd
  rw [List.drop_eq_nil_of_le hi] at h1
  have := congrArg List.length h1
  simp at this

theorem Tryd.quotedLoop (w : List UInt8) (hw : w.length ≤ 1000000) (K : AX → St → Prop) (ks : List Fr) (L : ACode) (hL : L = .loop (some [0, 7, 8]) Tryd.fn58_l0)
    (hk : (∀ d, w ≠ quoteL d) → ∀ e H', Nx Tryd.call K ks e H')
    (hr : ∀ (r : List UInt8) (k : Int) (ok : Bool) e H', e.at 4 = .str r → e.at 5 = .int .i64 k → e.at 6 = .bool ok → r.length ≤ w.length → (∀ d, w = quoteL d → r = d ∧ k = w.length ∧ ok = true) → Rt Tryd.call K ks e H') : ∀ (n i : Nat) (out : List UInt8) (H : AH) (q : Nat) (cp : Option Nat), w.length ≤ n + i → out.length ≤ i → i ≤ w.length → RInv w i out → Own H 5 1 q out.length cp (ofBytes out) →
    W Tryd.call K (.block 0 :: ks) [(0, .str w), (7, .sl q 0 1 out.length cp), (8, .int .i64 i)] H L := by
  intro n
  induction n with
  | zero =>
    intro i out H q cp hn hl hil hu ho
    refine W_loopN hL ?_
    simp only [Tryd.fn58_l0, Tryd.fn58_r5, AmR, kp, pushA, exe, Arg.val, Env.at, lk, putd, ok1, okM, abin, Option.getD_some, if_true, if_false, reduceCtorEq, Nat.reduceEqDiff]
    exact ⟨fun h => absurd h (by omega), fun _ => hk (hu.done (by omega)) _ _⟩
  | succ n ih =>
    intro i out H q cp hn hl hil hu ho
    refine W_loopN hL ?_
    by_cases hilt : i < w.length
    case neg =>
      simp only [Tryd.fn58_l0, Tryd.fn58_r5, AmR, kp, pushA, exe, Arg.val, Env.at, lk, putd, ok1, okM, abin, Option.getD_some, if_true, if_false, reduceCtorEq, Nat.reduceEqDiff]
      exact ⟨fun h => absurd h (by omega), fun _ => hk (hu.done (by omega)) _ _⟩
    obtain ⟨c, hc⟩ : ∃ c, w[i]? = some c := ⟨_, List.getElem?_eq_getElem hilt⟩
    have h0 : (0 : Int) ≤ (i : Int) := by omega
    have h1 : ((i : Int) < (w.length : Int)) = True := eq_true (by omega)
    have hd := drop_at hc
    have wr : ∀ k : Nat, k ≤ 4 → IntKind.i64.wrap ((i : Int) + (k : Int)) = ((i + k : Nat) : Int) := fun k hk => by rw [IntWalk.i64_in _ (by omega)]; omega
    have w1 : IntKind.i64.wrap ((i : Int) + 1) = ((i + 1 : Nat) : Int) := wr 1 (by omega)
    have w2 : IntKind.i64.wrap ((i : Int) + 2) = ((i + 2 : Nat) : Int) := wr 2 (by omega)
    have w3 : IntKind.i64.wrap ((i : Int) + 3) = ((i + 3 : Nat) : Int) := wr 3 (by omega)
    have w4 : IntKind.i64.wrap ((i : Int) + 4) = ((i + 4 : Nat) : Int) := wr 4 (by omega)
    have hcl := c.toNat_lt
    have hst := stepU_cons c (w.drop (i + 1))
    rw [← hd] at hst
    have fail : c ≠ 34 → stepU (w.drop i) = none → ∀ d, w = quoteL d → ([] : List UInt8) = d ∧ (0 : Int) = w.length ∧ false = true := fun hc34 hs d e => absurd e (hu.fail hc hc34 hs d)
    have app : ∀ (b : UInt8) (m : Nat), c ≠ 34 → stepU (w.drop i) = some (b, m) → ∃ q' H', aapp (H.push 5 true [.int .u8 b.toNat]) 5 1 1 (.sl q 0 1 out.length cp) [.int .u8 b.toNat] = some (.ok (.sl q' 0 1 (out.length + 1) none), H') ∧ W Tryd.call K (.block 0 :: ks) [(0, .str w), (7, .sl q' 0 1 (out.length + 1) none), (8, .int .i64 ((i + m : Nat) : Int))] H' L := fun b m hc34 hbm => by
      obtain ⟨q', H', e1, e2, _⟩ := ho.snoc 1 (new := [.int .u8 b.toNat]) (m := 1) (by simp) rfl (by omega)
      have hm := stepU_len hbm
      rw [List.length_drop] at hm
      have hlen : (out ++ [b]).length = out.length + 1 := by simp
      have := ih (i + m) (out ++ [b]) H' q' none (by omega) (by rw [hlen]; omega) (by omega) (hu.step hc hc34 hbm) (by rw [hlen, ← ofBytes_append]; exact e2)
      rw [hlen] at this
      exact ⟨q', H', e1, this⟩
    simp only [Tryd.fn58_l0, Tryd.fn58_r5, h1, AmR, kp, pushA, exe, Arg.val, Env.at, lk, putd, ok1, okM, abin, Option.getD_some, if_true, if_false, reduceCtorEq, Nat.reduceEqDiff, decide_true]
    simp only [Tryd.fn58_r6, h0, Int.toNat_natCast, hc, AmR, kp, exe, Arg.val, Env.at, lk, putd, ok1, okM, Option.getD_some, if_true, if_false, reduceCtorEq, Nat.reduceEqDiff, Option.map_some]
    simp only [Tryd.fn58_r7, AmR, Cd_beq, kp, pushA, exe, Arg.val, Env.at, lk, putd, ok1, okM, abin, Option.getD_some, if_true, if_false, reduceCtorEq, Nat.reduceEqDiff]
    refine ⟨fun h34 => ?_, fun h34 => ?_⟩
    · have c34 : c = 34 := UInt8.toNat_inj.1 (by show c.toNat = 34; omega)
      subst c34
      have hcells := ho.cells
      have tb := toBytes_of out
      simp only [Tryd.fn58_r8, takeFrom, hcells, tb, w1, AmR, kp, exe, Arg.val, Env.at, lk, putd, ok1, okM, abin, Option.getD_some, if_true, if_false, reduceCtorEq, Nat.reduceEqDiff, Option.map_some]
      exact hr out ((i + 1 : Nat) : Int) true _ _ rfl rfl rfl (by omega) (fun d e => by
        obtain ⟨a1, a2⟩ := hu.stop hc d e
        exact ⟨a1, by rw [a2], rfl⟩)
    · have c34 : c ≠ 34 := by rintro rfl; simp at h34
      have notp : (c.toNat : Int) < 32 ∨ (c.toNat : Int) > 126 → stepU (w.drop i) = none := fun h => by
        rw [hst, if_neg, if_neg]
        · rintro rfl; revert h; decide
        · unfold plainB; rw [decide_eq_true_iff]; omega
      by_cases hlo : (c.toNat : Int) < 32
      · have d1 : decide ((c.toNat : Int) < 32) = true := decide_eq_true hlo
        simp only [Tryd.fn58_r9, Tryd.fn58_r10, d1, AmR, kp, pushA, exe, Arg.val, Env.at, lk, putd, ok1, okM, abin, Option.getD_some, if_true, if_false, reduceCtorEq, Nat.reduceEqDiff]
        exact hr [] 0 false _ _ rfl rfl rfl (by simp) (fail c34 (notp (.inl hlo)))
      have d1 : decide ((c.toNat : Int) < 32) = false := decide_eq_false hlo
      by_cases hhi : (c.toNat : Int) > 126
      · have d2 : decide ((c.toNat : Int) > 126) = true := decide_eq_true hhi
        simp only [Tryd.fn58_r9, Tryd.fn58_r10, d1, d2, AmR, kp, pushA, exe, Arg.val, Env.at, lk, putd, ok1, okM, abin, Option.getD_some, if_true, if_false, reduceCtorEq, Nat.reduceEqDiff, Bool.false_eq_true]
        exact hr [] 0 false _ _ rfl rfl rfl (by simp) (fail c34 (notp (.inr hhi)))
      have d2 : decide ((c.toNat : Int) > 126) = false := decide_eq_false hhi
      simp only [Tryd.fn58_r9, d1, d2, AmR, kp, pushA, exe, Arg.val, Env.at, lk, putd, ok1, okM, abin, Option.getD_some, if_true, if_false, reduceCtorEq, Nat.reduceEqDiff, Bool.false_eq_true]
      simp only [Tryd.fn58_r11, AmR, Cd_bne, kp, pushA, exe, Arg.val, Env.at, lk, putd, ok1, okM, abin, Option.getD_some, if_true, if_false, reduceCtorEq, Nat.reduceEqDiff]
      refine ⟨fun h92 => ?_, fun h92 => ?_⟩
      case _ =>
        have c92 : c = 92 := UInt8.toNat_inj.1 (by show c.toNat = 92; omega)
        rw [if_neg (by rw [c92]; decide), if_pos c92] at hst
        have v : ∀ k : Nat, (0 : Int) ≤ ((i + k : Nat) : Int) := fun k => by omega
        have v1 := v 1
        have v2 := v 2
        have v3 := v 3
        by_cases hi1 : ((i + 1 : Nat) : Int) ≥ (w.length : Int)
        · have d3 : decide (((i + 1 : Nat) : Int) ≥ (w.length : Int)) = true := decide_eq_true hi1
          have hnone : stepU (w.drop i) = none := by
            rw [hst, hd, List.drop_eq_nil_of_le (by omega)]; rfl
          simp only [Tryd.fn58_r14, Tryd.fn58_r15, w1, d3, AmR, kp, pushA, exe, Arg.val, Env.at, lk, putd, ok1, okM, abin, Option.getD_some, if_true, if_false, reduceCtorEq, Nat.reduceEqDiff]
          exact hr [] 0 false _ _ rfl rfl rfl (by simp) (fail c34 hnone)
        have d3 : decide (((i + 1 : Nat) : Int) ≥ (w.length : Int)) = false := decide_eq_false hi1
        obtain ⟨x, hx⟩ : ∃ x, w[i + 1]? = some x := ⟨_, List.getElem?_eq_getElem (by omega)⟩
        rw [hd, drop_at hx, escO_two, show i + 1 + 1 = i + 2 from rfl, ← drop_at hx, ← hd] at hst
        have hne : ∀ k : UInt8, x ≠ k → ((x.toNat : Int) == (k.toNat : Int)) = false := fun k h => by
          rw [beq_eq_false_iff_ne]
          intro e
          exact h (UInt8.toNat_inj.1 (by omega))
        have heq : ∀ k : UInt8, x = k → ((x.toNat : Int) == (k.toNat : Int)) = true := fun k h => by rw [h]; exact beq_self_eq_true _
        simp only [Tryd.fn58_r14, w1, d3, AmR, kp, pushA, exe, Arg.val, Env.at, lk, putd, ok1, okM, abin, Option.getD_some, if_true, if_false, reduceCtorEq, Nat.reduceEqDiff]
        simp only [Tryd.fn58_r16, w1, v1, Int.toNat_natCast, hx, AmR, kp, exe, Arg.val, Env.at, lk, putd, ok1, okM, abin, Option.getD_some, if_true, if_false, reduceCtorEq, Nat.reduceEqDiff, Option.map_some]
        by_cases x34 : x = 34
        · have q : ((x.toNat : Int) == 34) = true := heq 34 x34
          rw [if_pos (.inl x34)] at hst
          obtain ⟨q', H', ha, hW⟩ := app x 2 c34 hst
          simp only [Tryd.fn58_r17, q, AmR, kp, pushA, exe, Arg.val, Env.at, lk, putd, ok1, okM, abin, Option.getD_some, if_true, if_false, reduceCtorEq, Nat.reduceEqDiff]
          simp only [Tryd.fn58_r18, takeFrom, cellsAt_new, ha, AmR, kp, exe, Arg.val, Env.at, lk, putd, AV.cells?, ok1, Option.getD_some, if_true, if_false, reduceCtorEq, Nat.reduceEqDiff, Nat.reduceAdd, Nat.reduceMul, Bool.true_eq_false, and_true, List.append_nil, Nat.reduceLeDiff, List.map_cons, List.map_nil, putAt, solid, List.all_cons, List.all_nil, Bool.and_self, List.length_cons, List.length_nil, afill, rep, List.reduceReplicate, List.flatten_cons, List.flatten_nil, List.set_cons_zero]
          simp only [Tryd.fn58_r19, w2, AmR, kp, exe, Arg.val, Env.at, lk, putd, ok1, okM, abin, Option.getD_some, if_true, if_false, reduceCtorEq, Nat.reduceEqDiff]
          exact hW
        have n34 : ((x.toNat : Int) == 34) = false := hne 34 x34
        by_cases x92 : x = 92
        · have q : ((x.toNat : Int) == 92) = true := heq 92 x92
          rw [if_pos (.inr x92)] at hst
          obtain ⟨q', H', ha, hW⟩ := app x 2 c34 hst
          simp only [Tryd.fn58_r17, n34, q, AmR, kp, pushA, exe, Arg.val, Env.at, lk, putd, ok1, okM, abin, Option.getD_some, if_true, if_false, reduceCtorEq, Nat.reduceEqDiff, Bool.false_eq_true]
          simp only [Tryd.fn58_r18, takeFrom, cellsAt_new, ha, AmR, kp, exe, Arg.val, Env.at, lk, putd, AV.cells?, ok1, Option.getD_some, if_true, if_false, reduceCtorEq, Nat.reduceEqDiff, Nat.reduceAdd, Nat.reduceMul, Bool.true_eq_false, and_true, List.append_nil, Nat.reduceLeDiff, List.map_cons, List.map_nil, putAt, solid, List.all_cons, List.all_nil, Bool.and_self, List.length_cons, List.length_nil, afill, rep, List.reduceReplicate, List.flatten_cons, List.flatten_nil, List.set_cons_zero]
          simp only [Tryd.fn58_r19, w2, AmR, kp, exe, Arg.val, Env.at, lk, putd, ok1, okM, abin, Option.getD_some, if_true, if_false, reduceCtorEq, Nat.reduceEqDiff]
          exact hW
        have n92 : ((x.toNat : Int) == 92) = false := hne 92 x92
        rw [if_neg (by rintro (h | h); exact x34 h; exact x92 h)] at hst
        simp only [Tryd.fn58_r17, n34, n92, AmR, kp, pushA, exe, Arg.val, Env.at, lk, putd, ok1, okM, abin, Option.getD_some, if_true, if_false, reduceCtorEq, Nat.reduceEqDiff, Bool.false_eq_true]
        by_cases x110 : x = 110
        · have q : ((x.toNat : Int) == 110) = true := heq 110 x110
          rw [if_pos x110] at hst
          obtain ⟨q', H', ha, hW⟩ := app 10 2 c34 hst
          have v10 : ((10 : UInt8).toNat : Int) = 10 := rfl
          rw [v10] at ha
          simp only [Tryd.fn58_r20, q, AmR, kp, pushA, exe, Arg.val, Env.at, lk, putd, ok1, okM, abin, Option.getD_some, if_true, if_false, reduceCtorEq, Nat.reduceEqDiff]
          simp only [Tryd.fn58_r21, takeFrom, cellsAt_new, ha, AmR, kp, exe, Arg.val, Env.at, lk, putd, AV.cells?, ok1, Option.getD_some, if_true, if_false, reduceCtorEq, Nat.reduceEqDiff, Nat.reduceAdd, Nat.reduceMul, Bool.true_eq_false, and_true, List.append_nil, Nat.reduceLeDiff, List.map_cons, List.map_nil, putAt, solid, List.all_cons, List.all_nil, Bool.and_self, List.length_cons, List.length_nil, afill, rep, List.reduceReplicate, List.flatten_cons, List.flatten_nil, List.set_cons_zero]
          simp only [Tryd.fn58_r22, w2, AmR, kp, exe, Arg.val, Env.at, lk, putd, ok1, okM, abin, Option.getD_some, if_true, if_false, reduceCtorEq, Nat.reduceEqDiff]
          exact hW
        have n110 : ((x.toNat : Int) == 110) = false := hne 110 x110
        rw [if_neg x110] at hst
        simp only [Tryd.fn58_r20, n110, AmR, kp, pushA, exe, Arg.val, Env.at, lk, putd, ok1, okM, abin, Option.getD_some, if_true, if_false, reduceCtorEq, Nat.reduceEqDiff]
        by_cases x120 : x = 120
        case neg =>
          have n120 : ((x.toNat : Int) == 120) = false := hne 120 x120
          rw [if_neg x120] at hst
          simp only [Tryd.fn58_r23, Tryd.fn58_r24, Tryd.fn58_r25, Tryd.fn58_r28, n120, AmR, kp, pushA, exe, Arg.val, Env.at, lk, putd, ok1, okM, abin, Option.getD_some, if_true, if_false, reduceCtorEq, Nat.reduceEqDiff, Bool.false_eq_true]
          exact hr [] 0 false _ _ rfl rfl rfl (by simp) (fail c34 hst)
        have q120 : ((x.toNat : Int) == 120) = true := heq 120 x120
        rw [if_pos x120] at hst
        by_cases hi3 : ((i + 3 : Nat) : Int) < (w.length : Int)
        case neg =>
          have d4 : decide (((i + 3 : Nat) : Int) < (w.length : Int)) = false := decide_eq_false hi3
          have hnone : escX (w.drop (i + 2)) = none := by
            have hl2 : (w.drop (i + 2)).length < 2 := by rw [List.length_drop]; omega
            generalize w.drop (i + 2) = y at hl2 ⊢
            cases y with
            | nil => rfl
            | cons a y =>
              cases y with
              | nil => rfl
              | cons b y => simp only [List.length_cons] at hl2; omega
          rw [hnone] at hst
          simp only [Tryd.fn58_r23, Tryd.fn58_r24, Tryd.fn58_r25, Tryd.fn58_r28, q120, w3, d4, AmR, kp, pushA, exe, Arg.val, Env.at, lk, putd, ok1, okM, abin, Option.getD_some, if_true, if_false, reduceCtorEq, Nat.reduceEqDiff, Bool.false_eq_true]
          exact hr [] 0 false _ _ rfl rfl rfl (by simp) (fail c34 hst)
        have d4 : decide (((i + 3 : Nat) : Int) < (w.length : Int)) = true := decide_eq_true hi3
        obtain ⟨a, ha2⟩ : ∃ a, w[i + 2]? = some a := ⟨_, List.getElem?_eq_getElem (by omega)⟩
        obtain ⟨b, hb3⟩ : ∃ b, w[i + 3]? = some b := ⟨_, List.getElem?_eq_getElem (by omega)⟩
        have hhex := Tryd.hexa
        have la := hexZ_lt a
        have lb := hexZ_lt b
        rw [drop_at ha2, show i + 2 + 1 = i + 3 from rfl, drop_at hb3, escX] at hst
        by_cases ca : hexZ a ≥ 0
        case neg =>
          have da : decide (hexZ a ≥ 0) = false := decide_eq_false ca
          rw [if_pos (.inl (by omega))] at hst
          simp only [Tryd.fn58_r23, Tryd.fn58_r24, Tryd.fn58_r25, Tryd.fn58_r28, q120, w3, d4, w2, v2, Int.toNat_natCast, ha2, hhex, da, AmR, kp, pushA, exe, Arg.val, Env.at, lk, putd, ok1, okM, abin, Option.getD_some, if_true, if_false, reduceCtorEq, Nat.reduceEqDiff, Bool.false_eq_true, List.map_cons, List.map_nil, Option.map_some]
          exact hr [] 0 false _ _ rfl rfl rfl (by simp) (fail c34 hst)
        have da : decide (hexZ a ≥ 0) = true := decide_eq_true ca
        by_cases cb : hexZ b ≥ 0
        case neg =>
          have db : decide (hexZ b ≥ 0) = false := decide_eq_false cb
          rw [if_pos (.inr (by omega))] at hst
          simp only [Tryd.fn58_r23, Tryd.fn58_r24, Tryd.fn58_r25, Tryd.fn58_r28, q120, w3, d4, w2, v2, v3, Int.toNat_natCast, ha2, hb3, hhex, da, db, AmR, kp, pushA, exe, Arg.val, Env.at, lk, putd, ok1, okM, abin, Option.getD_some, if_true, if_false, reduceCtorEq, Nat.reduceEqDiff, List.map_cons, List.map_nil, Option.map_some]
          exact hr [] 0 false _ _ rfl rfl rfl (by simp) (fail c34 hst)
        have db : decide (hexZ b ≥ 0) = true := decide_eq_true cb
        rw [if_neg (by omega)] at hst
        obtain ⟨q', H', ha, hW⟩ := app _ 4 c34 hst
        have z1 : IntKind.i64.wrap (hexZ a * 16) = hexZ a * 16 := IntWalk.i64_in _ (by omega)
        have z2 : IntKind.i64.wrap (hexZ a * 16 + hexZ b) = hexZ a * 16 + hexZ b := IntWalk.i64_in _ (by omega)
        have z3 : IntKind.u8.wrap (hexZ a * 16 + hexZ b) = hexZ a * 16 + hexZ b := u8_small (by omega) (by omega)
        have z4 : ((UInt8.ofNat (16 * hexZ a + hexZ b).toNat).toNat : Int) = hexZ a * 16 + hexZ b := by
          rw [UInt8.toNat_ofNat', Nat.mod_eq_of_lt (by omega)]; omega
        rw [z4] at ha
        simp only [Tryd.fn58_r23, Tryd.fn58_r24, Tryd.fn58_r25, q120, w3, d4, w2, v2, v3, Int.toNat_natCast, ha2, hb3, hhex, da, db, AmR, kp, pushA, exe, Arg.val, Env.at, lk, putd, ok1, okM, abin, Option.getD_some, if_true, if_false, reduceCtorEq, Nat.reduceEqDiff, List.map_cons, List.map_nil, Option.map_some]
        refine W_drawn' (by kernel_rfl) ?_
        simp only [Tryd.fn58_r26, Tryd.fn58_r26a, Tryd.fn58_r26b, w2, w3, v2, v3, Int.toNat_natCast, ha2, hb3, hhex, z1, z2, z3, takeFrom, cellsAt_new, AH.eta, ha, AmR, kp, exe, Arg.val, Env.at, lk, putd, AV.cells?, ok1, okM, abin, Option.getD_some, if_true, if_false, reduceCtorEq, Nat.reduceEqDiff, Nat.reduceAdd, Nat.reduceMul, Bool.true_eq_false, and_true, true_and, List.nil_append, List.append_nil, visH, List.flatMap_nil, Nat.reduceLeDiff, List.map_cons, List.map_nil, putAt, solid, List.all_cons, List.all_nil, Bool.and_self, List.length_cons, List.length_nil, Option.map_some, afill, rep, List.reduceReplicate, List.flatten_cons, List.flatten_nil, List.set_cons_zero]
        simp only [Tryd.fn58_r27, w4, AmR, kp, exe, Arg.val, Env.at, lk, putd, ok1, okM, abin, Option.getD_some, if_true, if_false, reduceCtorEq, Nat.reduceEqDiff]
        exact hW
      case _ =>
        have c92 : c ≠ 92 := by rintro rfl; simp at h92
        rw [if_pos (by
          unfold plainB
          have : c.toNat ≠ 34 := fun e => c34 (UInt8.toNat_inj.1 e)
          have : c.toNat ≠ 92 := fun e => c92 (UInt8.toNat_inj.1 e)
          rw [decide_eq_true_iff]; omega)] at hst
        obtain ⟨q', H', ha, hW⟩ := app c 1 c34 hst
        simp only [Tryd.fn58_r12, takeFrom, cellsAt_new, ha, AmR, kp, exe, Arg.val, Env.at, lk, putd, AV.cells?, ok1, Option.getD_some, if_true, if_false, reduceCtorEq, Nat.reduceEqDiff, Nat.reduceAdd, Nat.reduceMul, Bool.true_eq_false, and_true, List.append_nil, Nat.reduceLeDiff, List.map_cons, List.map_nil, putAt, solid, List.all_cons, List.all_nil, Bool.and_self, List.length_cons, List.length_nil, afill, rep, List.reduceReplicate, List.flatten_cons, List.flatten_nil, List.set_cons_zero]
        simp only [Tryd.fn58_r13, w1, AmR, kp, exe, Arg.val, Env.at, lk, putd, ok1, okM, abin, Option.getD_some, if_true, if_false, reduceCtorEq, Nat.reduceEqDiff]
        exact hW

def QuoP (w : List UInt8) (H : AH) (vs : List AV) (H' : AH) : Prop := H' = H ∧ ∃ (r : List UInt8) (k : Int) (ok : Bool), vs = [.str r, .int .i64 k, .bool ok] ∧ r.length ≤ w.length ∧ ∀ d, w = quoteL d → r = d ∧ k = w.length ∧ ok = true

theorem QuoP.bad {w : List UInt8} {H : AH} (h : ∀ d, w ≠ quoteL d) (H1 : AH) : Back 8 H (QuoP w H) [.str [], .int .i64 0, .bool false] H1 :=
  back_flat rfl ⟨rfl, [], 0, false, rfl, by simp, fun d hd => absurd hd (h d)⟩

theorem Tryd.quoted (w : List UInt8) (hw : w.length ≤ 1000000) (H : AH) : ∃ (r : List UInt8) (k : Int) (ok : Bool), Tryd.call 58 [.str w, .int .i64 0] H = some (.ok (.tup [.str r, .int .i64 k, .bool ok]), H) ∧ r.length ≤ w.length ∧ ∀ d, w = quoteL d → r = d ∧ k = w.length ∧ ok = true := by
  suffices h : W Tryd.call (endK Tryd.fn58.res (Back 8 H (QuoP w H))) [] [(0, .str w), (1, .int .i64 0)] ⟨[], 8, 8⟩ Tryd.fn58.code by
    obtain ⟨vs, H', ⟨rfl, r, k, ok, rfl, hr⟩, hc⟩ := ecall_vE 8 [] (lk Tryd.ext) (lk Tryd.tab) (f := 58) (fn := Tryd.fn58) (args := [.str w, .int .i64 0]) (H := H) rfl rfl rfl (views_flat rfl (views_flat rfl (views_nil H 8))) h
    exact ⟨r, k, ok, hc, hr⟩
  have h00 : (0 : Int) ≤ 0 := Int.le_refl 0
  have w1 : IntKind.i64.wrap ((0 : Int) + 1) = 1 := by decide
  have w1' : IntKind.i64.wrap (1 : Int) = 1 := by decide
  simp only [Tryd.fn58, Tryd.fn58_r0, AmR, kp, exe, Arg.val, Env.at, lk, putd, ok1, Option.getD_some, if_true, if_false, reduceCtorEq, Nat.reduceEqDiff]
  by_cases hl : (0 : Int) ≥ (w.length : Int)
  · have d1 : decide ((0 : Int) ≥ (w.length : Int)) = true := decide_eq_true hl
    simp only [Tryd.fn58_r1, Tryd.fn58_r2, d1, AmR, kp, pushA, exe, Arg.val, Env.at, lk, putd, ok1, okM, abin, Option.getD_some, if_true, if_false, reduceCtorEq, Nat.reduceEqDiff, resAll, resOf, Option.some.injEq, exists_eq_left']
    exact QuoP.bad (fun d e => by have := quoteL_size d; rw [← e] at this; omega) _
  have d1 : decide ((0 : Int) ≥ (w.length : Int)) = false := decide_eq_false hl
  obtain ⟨a, ha⟩ : ∃ a, w[0]? = some a := ⟨_, List.getElem?_eq_getElem (by omega)⟩
  simp only [Tryd.fn58_r1, d1, h00, Int.toNat_zero, ha, AmR, Cd_bne, kp, pushA, exe, Arg.val, Env.at, lk, putd, ok1, okM, abin, Option.getD_some, if_true, if_false, reduceCtorEq, Nat.reduceEqDiff, Bool.false_eq_true, Option.map_some]
  refine ⟨fun h1 => ?_, fun h1 => ?_⟩
  · simp only [Tryd.fn58_r3, AmR, kp, exe, Arg.val, Env.at, lk, putd, ok1, AH.push, Option.getD_some, if_true, if_false, reduceCtorEq, Nat.reduceEqDiff, Nat.reduceAdd, List.map_nil, afill, rep, List.reduceReplicate, List.flatten_nil]
    simp only [Tryd.fn58_r4, w1', AmR, kp, exe, Arg.val, Env.at, lk, putd, ok1, okM, abin, Option.getD_some, if_true, if_false, reduceCtorEq, Nat.reduceEqDiff, Int.reduceAdd]
    have ho : Own (AH.push ⟨[], 8, 8⟩ 5 true []) 5 1 8 0 (some 0) (ofBytes []) := own_new ⟨[], 8, 8⟩ 5 true _ _ (by decide) rfl (.inl rfl) (Nat.le_refl _)
    refine Tryd.quotedLoop w hw _ _ _ rfl ?_ ?_ w.length 1 [] _ 8 (some 0) (by omega) (by simp) (by omega) (fun d e => ⟨d, ?_, rfl⟩) ho
    · intro hd e H'
      simp only [Tryd.fn58_r29, AmR, kp, exe, Arg.val, Env.at, lk, putd, ok1, Option.getD_some, if_true, if_false, Nat.reduceEqDiff, resAll, resOf, Option.some.injEq, exists_eq_left']
      exact QuoP.bad hd _
    · intro r k ok e H' h4 h5 h6 hr hd
      simp only [Rt_code, Rt_nil]
      rw [endK_ret]
      exact ⟨_, by simp only [resAll, resOf, h4, h5, h6], back_flat rfl ⟨rfl, r, k, ok, rfl, hr, hd⟩⟩
    · rw [e]; rfl
  · simp only [Tryd.fn58_r2, AmR, kp, exe, Arg.val, Env.at, lk, putd, ok1, Option.getD_some, if_true, if_false, reduceCtorEq, Nat.reduceEqDiff, resAll, resOf, Option.some.injEq, exists_eq_left']
    refine QuoP.bad (fun d e => ?_) _
    have := quoteL_first d
    rw [← e, ha, Option.some.injEq] at this
    exact h1 (by rw [this]; rfl)

theorem Tryd.unqRef (w : List UInt8) (hw : w.length ≤ 1000000) (H : AH) : ∃ (r : List UInt8) (e : Int), Tryd.call 43 [.str w] H = some (.ok (.tup [.str r, .int .i64 e]), H) ∧ r.length ≤ w.length ∧ ∀ d, w = quoteL d → r = d ∧ e = 0 := by
  suffices h : W Tryd.call (endK Tryd.fn43.res (Back 8 H (UnqP w H))) [] [(0, .str w)] ⟨[], 8, 8⟩ Tryd.fn43.code by
    obtain ⟨vs, H', ⟨rfl, r, e, rfl, hr⟩, hc⟩ := ecall_vE 8 [] (lk Tryd.ext) (lk Tryd.tab) (f := 43) (fn := Tryd.fn43) (args := [.str w]) (H := H) rfl rfl rfl (views_flat rfl (views_nil H 8)) h
    exact ⟨r, e, hc, hr⟩
  obtain ⟨r, k, ok, hc, hr, hd⟩ := Tryd.quoted w hw ⟨[], 8, 8⟩
  have bad : (∀ d, w ≠ quoteL d) → ∀ H1, Back 8 H (UnqP w H) [.str [], .int .i64 4] H1 := fun h H1 => UnqP.bad h H1
  simp only [Tryd.fn43, Tryd.fn43_r0, AmR, kp, exe, Arg.val, Env.at, lk, putd, ok1, Option.getD_some, if_true, if_false, reduceCtorEq]
  simp only [Tryd.fn43_r1, hc, AmR, kp, exe, Arg.val, Env.at, lk, putd, ok1, okM, Option.getD_some, if_true, if_false, List.getElem?_cons_zero, List.getElem?_cons_succ, reduceCtorEq, Nat.reduceEqDiff, List.map_cons, List.map_nil]
  cases ok with
  | false =>
    simp only [Tryd.fn43_r2, Tryd.fn43_r3, AmR, kp, pushA, exe, Arg.val, Env.at, lk, putd, ok1, okM, Option.getD_some, if_true, if_false, Bool.not_false, reduceCtorEq, Nat.reduceEqDiff, resAll, resOf, Option.some.injEq, aun, exists_eq_left']
    exact bad (fun d e => by have := (hd d e).2.2; cases this) _
  | true =>
    simp only [Tryd.fn43_r2, AmR, Cd_bne, kp, pushA, exe, Arg.val, Env.at, lk, putd, ok1, okM, abin, Option.getD_some, if_true, if_false, Bool.not_true, reduceCtorEq, Nat.reduceEqDiff, Bool.false_eq_true, aun]
    refine ⟨fun h => ?_, fun h => ?_⟩
    · simp only [Tryd.fn43_r4, AmR, kp, exe, Arg.val, Env.at, lk, putd, ok1, Option.getD_some, if_true, if_false, Nat.reduceEqDiff, resAll, resOf, Option.some.injEq, exists_eq_left']
      exact back_flat rfl ⟨rfl, r, 0, rfl, hr, fun d e => ⟨(hd d e).1, rfl⟩⟩
    · simp only [Tryd.fn43_r3, AmR, kp, exe, Arg.val, Env.at, lk, putd, ok1, Option.getD_some, if_true, if_false, Nat.reduceEqDiff, resAll, resOf, Option.some.injEq, exists_eq_left']
      exact bad (fun d e => h (hd d e).2.1) _

end Go.Am
