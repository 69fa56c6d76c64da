/-
Cells, of the program and of the reference. Conditions: those that each theorem names.
-/
import Derived.Test.YtolilamofgildaaDoorAmB
set_option linter.unusedSimpArgs false
set_option linter.unusedVariables false
namespace Go.Am

def plainC (b : UInt8) : Bool := decide (32 ≤ b.toNat) && decide (b.toNat ≤ 126)

theorem cellB_cons {s : List UInt8} {c d : UInt8} (hc : s[0]? = some c) (hd : s[s.length - 1]? = some d) : cellB s = (decide (s.length ≤ 1048576) && !(c == 32) && !(d == 32) && !dbl s && s.all plainC) := by
  have h1 : (s != []) = true := by cases s with | nil => simp at hc | cons => rfl
  have h2 : s.head? = some c := by cases s with | nil => simp at hc | cons => simpa using hc
  have h3 : s.getLast? = some d := by rw [List.getLast?_eq_getElem?]; exact hd
  unfold cellB
  rw [h1, h2, h3]
  rfl

theorem Tryd.contains (s p : List UInt8) (H : AH) (h : s.length < 4294967281) : Tryd.call 54 [.str s, .str p] H = some (.ok (.bool (Lib.contains s p)), H) :=
  ecall_ext 6 [] _ _ (g := gContains) rfl _ H (by unfold gContains; simp only [h, if_true]; rfl)

theorem Tryd.cellLoop (s : List UInt8) (hs : s.length ≤ 4000000) (H : AH) (K : AX → St → Prop) (ks : List Fr) (L : ACode) (hL : L = .loop (some [0, 29, 30]) Tryd.fn39_l0) : ∀ (n i : Nat), n + i = s.length →
    ((s.drop i).all plainC = true → ∀ e, Nx Tryd.call K ks e H) → ((s.drop i).all plainC = false → ∀ e, e.at 2 = .bool false → Rt Tryd.call K ks e H) →
    W Tryd.call K (.block 0 :: ks) [(0, .str s), (29, .int .i64 s.length), (30, .int .i64 i)] H L := by
  intro n
  induction n with
  | zero =>
    intro i hi hk hr
    refine W_loopN hL ?_
    have hi' : i = s.length := by omega
    subst hi'
    simp only [Tryd.fn39_l0, Tryd.fn39_r6, AmR, kp, pushA, exe, Arg.val, Env.at, lk, putd, okM, abin, Option.getD_some, if_true, if_false, reduceCtorEq, Nat.reduceEqDiff]
    refine ⟨fun h => absurd h (by omega), fun _ => hk (by rw [List.drop_length]; rfl) _⟩
  | succ n ih =>
    intro i hi hk hr
    refine W_loopN hL ?_
    obtain ⟨c, hc⟩ : ∃ c, s[i]? = some c := ⟨_, List.getElem?_eq_getElem (by omega)⟩
    rw [drop_cons' hc, List.all_cons] at hk hr
    have h0 : (0 : Int) ≤ (i : Int) := by omega
    have h1 : ((i : Int) < (s.length : Int)) = True := eq_true (by omega)
    have hw := succ_wrap (i := i) (by omega)
    simp only [Tryd.fn39_l0, Tryd.fn39_r6, h1, AmR, kp, pushA, exe, Arg.val, Env.at, lk, putd, okM, abin, Option.getD_some, if_true, if_false, reduceCtorEq, Nat.reduceEqDiff, decide_true]
    simp only [Tryd.fn39_r7, AmR, kp, exe, Arg.val, Env.at, lk, putd, ok1, Option.getD_some, if_true, if_false, reduceCtorEq, Nat.reduceEqDiff]
    by_cases a1 : (c.toNat : Int) < 32
    · have e1 : ((c.toNat : Int) < 32) = True := eq_true a1
      have e3 : plainC c = false := by simp [plainC]; omega
      simp only [Tryd.fn39_r8, h0, Int.toNat_natCast, hc, e1, AmR, kp, pushA, exe, Arg.val, Env.at, lk, putd, ok1, okM, abin, Option.getD_some, if_true, if_false, reduceCtorEq, Nat.reduceEqDiff, decide_true, Option.map_some]
      simp only [Tryd.fn39_r9, AmR, kp, exe, Arg.val, Env.at, lk, putd, ok1, Option.getD_some, if_true, if_false, reduceCtorEq, Nat.reduceEqDiff]
      exact hr (by rw [e3]; rfl) _ rfl
    · have e1 : ((c.toNat : Int) < 32) = False := eq_false a1
      by_cases a2 : (c.toNat : Int) > 126
      · have e2 : ((c.toNat : Int) > 126) = True := eq_true a2
        have e3 : plainC c = false := by simp [plainC]; omega
        simp only [Tryd.fn39_r8, h0, Int.toNat_natCast, hc, e1, e2, AmR, kp, pushA, exe, Arg.val, Env.at, lk, putd, ok1, okM, abin, Option.getD_some, if_true, if_false, reduceCtorEq, Nat.reduceEqDiff, decide_true, decide_false, Bool.false_eq_true, Option.map_some]
        simp only [Tryd.fn39_r9, AmR, kp, exe, Arg.val, Env.at, lk, putd, ok1, Option.getD_some, if_true, if_false, reduceCtorEq, Nat.reduceEqDiff]
        exact hr (by rw [e3]; rfl) _ rfl
      · have e2 : ((c.toNat : Int) > 126) = False := eq_false a2
        have e3 : plainC c = true := by simp [plainC]; omega
        simp only [Tryd.fn39_r8, h0, Int.toNat_natCast, hc, e1, e2, AmR, kp, pushA, exe, Arg.val, Env.at, lk, putd, ok1, okM, abin, Option.getD_some, if_true, if_false, reduceCtorEq, Nat.reduceEqDiff, decide_false, Bool.false_eq_true, Option.map_some]
        simp only [Tryd.fn39_r10, hw, AmR, kp, exe, Arg.val, Env.at, lk, putd, ok1, okM, abin, Option.getD_some, if_true, if_false, reduceCtorEq, Nat.reduceEqDiff]
        exact ih (i + 1) (by omega) (fun h => hk (by rw [e3, h]; rfl)) fun h => hr (by rw [e3, h]; rfl)

theorem Tryd.cell (s : List UInt8) (hs : s.length ≤ 4000000) (H : AH) : Tryd.call 39 [.str s] H = some (.ok (.bool (cellB s)), H) := by
  refine ecall_flat 6 [] _ _ (out := [.bool (cellB s)]) rfl rfl rfl (views_flat rfl (views_nil H 6)) rfl ?_
  show W Tryd.call _ _ _ _ _
  cases hsn : s with
  | nil =>
    simp only [Tryd.fn39, Tryd.fn39_r0, Tryd.fn39_r1, Tryd.fn39_r2, Tryd.fn39_r3, Tryd.fn39_r4, beq_self_eq_true, flatK_ret, cellB, AmR, kp, pushA, exe, number, Arg.val, Env.at, lk, putd, ok1, okM, abin, Option.getD_some, if_true, if_false, reduceCtorEq, Nat.reduceEqDiff, decide_true, resAll, resOf, Option.some.injEq, List.cons.injEq, AV.bool.injEq, and_true, List.append_nil, Nat.reduceLeDiff, List.all_nil, Bool.and_true, List.length_nil, bne_self_eq_false]
    rfl
  | cons c0 l =>
    rw [← hsn]
    have hb : (s == ([] : List UInt8)) = false := by rw [hsn]; rfl
    have hl0 : 0 < s.length := by rw [hsn]; simp
    have hc : s[0]? = some c0 := by rw [hsn]; rfl
    obtain ⟨d, hd⟩ : ∃ d, s[s.length - 1]? = some d := ⟨_, List.getElem?_eq_getElem (by omega)⟩
    have hcb := cellB_cons hc hd
    have hct := Tryd.contains s [32, 32]
    rw [contains_dd] at hct
    have hct := fun H => hct H (by omega)
    have h0 : (0 : Int) ≤ 0 := Int.le_refl 0
    have hw : IntKind.i64.wrap ((s.length : Int) - 1) = ((s.length - 1 : Nat) : Int) := by rw [IntWalk.i64_in _ (by omega)]; omega
    have hw0 : (0 : Int) ≤ ((s.length - 1 : Nat) : Int) := by omega
    have ec : ∀ x : UInt8, ((x.toNat : Int) == 32) = (x == 32) := fun x => by
      cases hx : x == 32 with
      | true => rw [beq_iff_eq] at hx; subst hx; rfl
      | false =>
        have : ¬ x = 32 := by simpa using hx
        simp only [beq_eq_false_iff_ne, ne_eq]
        intro e
        exact this (UInt8.toNat_inj.1 (by have h32 : (32 : UInt8).toNat = 32 := rfl; omega))
    clear hsn
    by_cases a1 : (s.length : Int) > 1048576
    · have e1 : ((s.length : Int) > 1048576) = True := eq_true a1
      have e2 : cellB s = false := by rw [hcb, decide_eq_false (by omega)]; rfl
      simp only [Tryd.fn39, Tryd.fn39_r0, Tryd.fn39_r1, Tryd.fn39_r2, Tryd.fn39_r3, Tryd.fn39_r4, hb, e1, e2, flatK_ret, AmR, kp, pushA, exe, number, Arg.val, Env.at, lk, putd, ok1, okM, abin, Option.getD_some, if_true, if_false, reduceCtorEq, Nat.reduceEqDiff, decide_true, Bool.false_eq_true, resAll, resOf, List.append_nil]
    · have e1 : ((s.length : Int) > 1048576) = False := eq_false a1
      have e1' : decide (s.length ≤ 1048576) = true := decide_eq_true (by omega)
      rw [e1'] at hcb
      have hcz := ec c0
      have hdz := ec d
      generalize (c0 == 32) = b2 at hcz hcb
      generalize (d == 32) = b3 at hdz hcb
      generalize dbl s = b4 at hct hcb
      cases b2 <;> cases b3 <;> cases b4 <;> simp only [Tryd.fn39, Tryd.fn39_r0, Tryd.fn39_r1, Tryd.fn39_r2, Tryd.fn39_r3, Tryd.fn39_r4, hb, e1, h0, Int.toNat_zero, hc, hcz, hw, hw0, Int.toNat_natCast, hd, hdz, hct, hcb, Bool.not_true, Bool.not_false, Bool.true_and, Bool.false_and, flatK_ret, AmR, kp, pushA, exe, number, Arg.val, Env.at, lk, putd, ok1, okM, abin, Option.getD_some, if_true, if_false, Bool.not_true, Bool.not_false, reduceCtorEq, Nat.reduceEqDiff, decide_false, Bool.false_eq_true, resAll, resOf, List.append_nil, List.map_cons, List.map_nil, Bool.and_true, Bool.and_self, Option.map_some]
      simp only [Tryd.fn39_r5, AmR, kp, exe, Arg.val, Env.at, lk, putd, ok1, Option.getD_some, if_true, if_false, reduceCtorEq, Nat.reduceEqDiff]
      refine Tryd.cellLoop s hs _ _ _ _ rfl s.length 0 (by omega) (fun h e => ?_) fun h e he => ?_
      · rw [List.drop_zero] at h
        simp only [Tryd.fn39_r11, flatK_ret, h, AmR, kp, exe, Arg.val, Env.at, lk, putd, ok1, Option.getD_some, if_true, resAll, resOf]
      · rw [List.drop_zero] at h
        simp only [Rt_code, Rt_nil, flatK_ret, resAll, resOf, he, h]

/-! ### The reference's -/

def chkC : Option UInt8 → List UInt8 → Bool
  | _, [] => true
  | p, c :: t => plainC c && !(p == some 32 && c == 32) && chkC (some c) t
theorem chkC_eq : ∀ (t : List UInt8) (p : Option UInt8), chkC p t = (t.all plainC && !(p == some 32 && t.head? == some 32) && !dbl t)
  | [], p => by simp [chkC, dbl]
  | c :: t, p => by
    unfold chkC dbl
    rw [chkC_eq t (some c), List.all_cons, List.head?_cons]
    cases plainC c <;> cases t.all plainC <;> cases dbl t <;> simp <;> (try (intros; simp_all))
theorem chkC_none (t : List UInt8) : chkC none t = (t.all plainC && !dbl t) := by rw [chkC_eq]; simp

theorem beq32 (x : UInt8) : ((x.toNat : Int) == 32) = (x == 32) := by
  cases hx : x == 32 with
  | true => rw [beq_iff_eq] at hx; subst hx; rfl
  | false =>
    have : ¬ x = 32 := by simpa using hx
    simp only [beq_eq_false_iff_ne, ne_eq]
    intro e
    exact this (UInt8.toNat_inj.1 (by have h32 : (32 : UInt8).toNat = 32 := rfl; omega))

theorem Tryd.cellLoopRef (s : List UInt8) (hs : s.length ≤ 4000000) (H : AH) (K : AX → St → Prop) (ks : List Fr) (L : ACode) (hL : L = .loop (some [0, 3]) Tryd.fn25_l0) : ∀ (n i : Nat) (p : Option UInt8), n + i = s.length → ((i = 0 ∧ p = none) ∨ ∃ j d, i = j + 1 ∧ s[j]? = some d ∧ p = some d) →
    (chkC p (s.drop i) = true → ∀ e, Nx Tryd.call K ks e H) → (chkC p (s.drop i) = false → ∀ e, e.at 2 = .bool false → Rt Tryd.call K ks e H) →
    W Tryd.call K (.block 0 :: ks) [(0, .str s), (3, .int .i64 i)] H L := by
  intro n
  induction n with
  | zero =>
    intro i p hi hp hk hr
    refine W_loopN hL ?_
    have hi' : i = s.length := by omega
    subst hi'
    simp only [Tryd.fn25_l0, Tryd.fn25_r5, AmR, kp, pushA, exe, Arg.val, Env.at, lk, putd, ok1, okM, abin, Option.getD_some, if_true, if_false, reduceCtorEq, Nat.reduceEqDiff]
    refine ⟨fun h => absurd h (by omega), fun _ => hk (by rw [List.drop_length]; rfl) _⟩
  | succ n ih =>
    intro i p hi hp hk hr
    refine W_loopN hL ?_
    obtain ⟨c, hc⟩ : ∃ c, s[i]? = some c := ⟨_, List.getElem?_eq_getElem (by omega)⟩
    rw [drop_cons' hc] at hk hr
    unfold chkC at hk hr
    have h0 : (0 : Int) ≤ (i : Int) := by omega
    have h1 : ((i : Int) < (s.length : Int)) = True := eq_true (by omega)
    have hw := succ_wrap (i := i) (by omega)
    have hcz := beq32 c
    have next : (i + 1 = 0 ∧ some c = none) ∨ ∃ j d, i + 1 = j + 1 ∧ s[j]? = some d ∧ some c = some d := .inr ⟨i, c, rfl, hc, rfl⟩
    simp only [Tryd.fn25_l0, Tryd.fn25_r5, h1, AmR, kp, pushA, exe, Arg.val, Env.at, lk, putd, ok1, okM, abin, Option.getD_some, if_true, if_false, reduceCtorEq, Nat.reduceEqDiff, decide_true]
    by_cases a1 : (c.toNat : Int) < 32
    · have e1 : ((c.toNat : Int) < 32) = True := eq_true a1
      have e3 : plainC c = false := by simp [plainC]; omega
      simp only [Tryd.fn25_r6, h0, Int.toNat_natCast, hc, e1, AmR, kp, exe, Arg.val, Env.at, lk, putd, ok1, okM, abin, Option.getD_some, if_true, if_false, reduceCtorEq, Nat.reduceEqDiff, decide_true, Option.map_some]
      simp only [Tryd.fn25_r7, Tryd.fn25_r8, AmR, kp, pushA, exe, Arg.val, Env.at, lk, putd, ok1, Option.getD_some, if_true, if_false, reduceCtorEq, Nat.reduceEqDiff]
      simp only [Tryd.fn25_r9, AmR, kp, exe, Arg.val, Env.at, lk, putd, ok1, Option.getD_some, if_true, if_false, reduceCtorEq, Nat.reduceEqDiff]
      exact hr (by rw [e3]; rfl) _ rfl
    · have e1 : ((c.toNat : Int) < 32) = False := eq_false a1
      by_cases a2 : (c.toNat : Int) > 126
      · have e2 : ((c.toNat : Int) > 126) = True := eq_true a2
        have e3 : plainC c = false := by simp [plainC]; omega
        simp only [Tryd.fn25_r6, h0, Int.toNat_natCast, hc, e1, e2, AmR, kp, exe, Arg.val, Env.at, lk, putd, ok1, okM, abin, Option.getD_some, if_true, if_false, reduceCtorEq, Nat.reduceEqDiff, decide_true, decide_false, Bool.false_eq_true, Option.map_some]
        simp only [Tryd.fn25_r7, Tryd.fn25_r8, AmR, kp, pushA, exe, Arg.val, Env.at, lk, putd, ok1, Option.getD_some, if_true, if_false, reduceCtorEq, Nat.reduceEqDiff]
        simp only [Tryd.fn25_r9, AmR, kp, exe, Arg.val, Env.at, lk, putd, ok1, Option.getD_some, if_true, if_false, reduceCtorEq, Nat.reduceEqDiff]
        exact hr (by rw [e3]; rfl) _ rfl
      · have e2 : ((c.toNat : Int) > 126) = False := eq_false a2
        have e3 : plainC c = true := by simp [plainC]; omega
        simp only [Tryd.fn25_r6, h0, Int.toNat_natCast, hc, e1, e2, AmR, kp, exe, Arg.val, Env.at, lk, putd, ok1, okM, abin, Option.getD_some, if_true, if_false, reduceCtorEq, Nat.reduceEqDiff, decide_false, Bool.false_eq_true, Option.map_some]
        rcases hp with ⟨rfl, rfl⟩ | ⟨j, d, rfl, hd, rfl⟩
        · have e4 : (((0 : Nat) : Int) > 0) = False := eq_false (by omega)
          simp only [Tryd.fn25_r7, Tryd.fn25_r8, AmR, kp, pushA, exe, Arg.val, Env.at, lk, putd, ok1, okM, abin, Option.getD_some, if_true, if_false, reduceCtorEq, Nat.reduceEqDiff, decide_false, Bool.false_eq_true, Int.cast_ofNat_Int, Int.reduceGT]
          simp only [Tryd.fn25_r10, AmR, kp, exe, Arg.val, Env.at, lk, putd, ok1, okM, abin, Option.getD_some, if_true, if_false, reduceCtorEq, Nat.reduceEqDiff, Int.reduceAdd]
          exact ih (0 + 1) _ (by omega) next (fun h => hk (by rw [e3, h]; rfl)) fun h => hr (by rw [e3, h]; rfl)
        · have e4 : (((j + 1 : Nat) : Int) > 0) = True := eq_true (by omega)
          have hj : IntKind.i64.wrap (((j + 1 : Nat) : Int) - 1) = (j : Int) := by rw [IntWalk.i64_in _ (by omega)]; omega
          have hj0 : (0 : Int) ≤ (j : Int) := by omega
          have hdz := beq32 d
          have ed : (some d == some (32 : UInt8)) = (d == 32) := rfl
          rw [ed] at hk hr
          generalize (c == 32) = b1 at hcz hk hr
          generalize (d == 32) = b2 at hdz hk hr
          cases b1
          · simp only [Tryd.fn25_r7, Tryd.fn25_r8, e4, h0, Int.toNat_natCast, hc, hcz, AmR, kp, pushA, exe, Arg.val, Env.at, lk, putd, ok1, okM, abin, Option.getD_some, if_true, if_false, reduceCtorEq, Nat.reduceEqDiff, decide_true, Bool.false_eq_true, Option.map_some]
            simp only [Tryd.fn25_r10, hw, AmR, kp, exe, Arg.val, Env.at, lk, putd, ok1, okM, abin, Option.getD_some, if_true, if_false, reduceCtorEq, Nat.reduceEqDiff]
            exact ih (j + 1 + 1) _ (by omega) next (fun h => hk (by rw [e3, h]; simp)) fun h => hr (by rw [e3, h]; simp)
          · cases b2
            · simp only [Tryd.fn25_r7, Tryd.fn25_r8, e4, h0, Int.toNat_natCast, hc, hcz, hj, hj0, hd, hdz, AmR, kp, pushA, exe, Arg.val, Env.at, lk, putd, ok1, okM, abin, Option.getD_some, if_true, if_false, reduceCtorEq, Nat.reduceEqDiff, decide_true, Bool.false_eq_true, Option.map_some]
              simp only [Tryd.fn25_r10, hw, AmR, kp, exe, Arg.val, Env.at, lk, putd, ok1, okM, abin, Option.getD_some, if_true, if_false, reduceCtorEq, Nat.reduceEqDiff]
              exact ih (j + 1 + 1) _ (by omega) next (fun h => hk (by rw [e3, h]; rfl)) fun h => hr (by rw [e3, h]; rfl)
            · simp only [Tryd.fn25_r7, Tryd.fn25_r8, e4, h0, Int.toNat_natCast, hc, hcz, hj, hj0, hd, hdz, AmR, kp, pushA, exe, Arg.val, Env.at, lk, putd, ok1, okM, abin, Option.getD_some, if_true, if_false, reduceCtorEq, Nat.reduceEqDiff, decide_true, Bool.false_eq_true, Option.map_some]
              simp only [Tryd.fn25_r9, AmR, kp, exe, Arg.val, Env.at, lk, putd, ok1, Option.getD_some, if_true, if_false, reduceCtorEq, Nat.reduceEqDiff]
              exact hr (by rw [e3]; rfl) _ rfl

theorem Tryd.cellRef (s : List UInt8) (hs : s.length ≤ 4000000) (H : AH) : Tryd.call 25 [.str s] H = some (.ok (.bool (cellB s)), H) := by
  refine ecall_flat 6 [] _ _ (out := [.bool (cellB s)]) rfl rfl rfl (views_flat rfl (views_nil H 6)) rfl ?_
  show W Tryd.call _ _ _ _ _
  cases hsn : s with
  | nil =>
    simp only [Tryd.fn25, Tryd.fn25_r0, Tryd.fn25_r1, Tryd.fn25_r2, Tryd.fn25_r3, beq_self_eq_true, flatK_ret, cellB, AmR, kp, pushA, exe, number, Arg.val, Env.at, lk, putd, ok1, okM, abin, Option.getD_some, if_true, if_false, reduceCtorEq, Nat.reduceEqDiff, decide_true, resAll, resOf, Option.some.injEq, List.cons.injEq, AV.bool.injEq, and_true, List.append_nil, Nat.reduceLeDiff, List.all_nil, Bool.and_true, List.length_nil, bne_self_eq_false]
    rfl
  | cons c0 l =>
    rw [← hsn]
    have hb : (s == ([] : List UInt8)) = false := by rw [hsn]; rfl
    have hl0 : 0 < s.length := by rw [hsn]; simp
    have hc : s[0]? = some c0 := by rw [hsn]; rfl
    obtain ⟨d, hd⟩ : ∃ d, s[s.length - 1]? = some d := ⟨_, List.getElem?_eq_getElem (by omega)⟩
    have hcb := cellB_cons hc hd
    have hch := chkC_none s
    have h0 : (0 : Int) ≤ 0 := Int.le_refl 0
    have hw : IntKind.i64.wrap ((s.length : Int) - 1) = ((s.length - 1 : Nat) : Int) := by rw [IntWalk.i64_in _ (by omega)]; omega
    have hw0 : (0 : Int) ≤ ((s.length - 1 : Nat) : Int) := by omega
    clear hsn
    by_cases a1 : (s.length : Int) > 1048576
    · have e1 : ((s.length : Int) > 1048576) = True := eq_true a1
      have e2 : cellB s = false := by rw [hcb, decide_eq_false (by omega)]; rfl
      simp only [Tryd.fn25, Tryd.fn25_r0, Tryd.fn25_r1, Tryd.fn25_r2, Tryd.fn25_r3, hb, e1, e2, flatK_ret, AmR, kp, pushA, exe, number, Arg.val, Env.at, lk, putd, ok1, okM, abin, Option.getD_some, if_true, if_false, reduceCtorEq, Nat.reduceEqDiff, decide_true, Bool.false_eq_true, resAll, resOf, List.append_nil]
    · have e1 : ((s.length : Int) > 1048576) = False := eq_false a1
      have e1' : decide (s.length ≤ 1048576) = true := decide_eq_true (by omega)
      rw [e1'] at hcb
      have hcz := beq32 c0
      have hdz := beq32 d
      generalize (c0 == 32) = b2 at hcz hcb
      generalize (d == 32) = b3 at hdz hcb
      cases b2 <;> cases b3 <;> simp only [Tryd.fn25, Tryd.fn25_r0, Tryd.fn25_r1, Tryd.fn25_r2, Tryd.fn25_r3, hb, e1, h0, Int.toNat_zero, hc, hcz, hw, hw0, Int.toNat_natCast, hd, hdz, hcb, Bool.not_true, Bool.not_false, Bool.true_and, Bool.false_and, flatK_ret, AmR, kp, pushA, exe, number, Arg.val, Env.at, lk, putd, ok1, okM, abin, Option.getD_some, if_true, if_false, Bool.not_true, Bool.not_false, reduceCtorEq, Nat.reduceEqDiff, decide_false, Bool.false_eq_true, resAll, resOf, List.append_nil, Bool.and_true, Bool.and_self, Option.map_some]
      simp only [Tryd.fn25_r4, AmR, kp, exe, Arg.val, Env.at, lk, putd, ok1, Option.getD_some, if_true, if_false, reduceCtorEq, Nat.reduceEqDiff]
      have efin : (!dbl s && s.all plainC) = chkC none s := by rw [hch, Bool.and_comm]
      rw [efin]
      refine Tryd.cellLoopRef s hs _ _ _ _ rfl s.length 0 none (by omega) (.inl ⟨rfl, rfl⟩) (fun h e => ?_) fun h e he => ?_
      · rw [List.drop_zero] at h
        simp only [Tryd.fn25_r11, flatK_ret, h, AmR, kp, exe, Arg.val, Env.at, lk, putd, ok1, Option.getD_some, if_true, resAll, resOf]
      · rw [List.drop_zero] at h
        simp only [Rt_code, Rt_nil, flatK_ret, resAll, resOf, he, h]

end Go.Am
