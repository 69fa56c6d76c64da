/-
Quoted strings: what a sequence says; hexadecimal digits, sequences of the program. Conditions: those that each theorem names.
-/
import Derived.Test.YtodonjfcaimgiaaDoorAmPd
set_option linter.unusedSimpArgs false
set_option linter.unusedVariables false
namespace Go.Am

/-- The value of a hexadecimal digit, or -1. -/
def hexI (n : Nat) : Int := if 48 ≤ n ∧ n ≤ 57 then (n : Int) - 48 else if 97 ≤ n ∧ n ≤ 102 then (n : Int) - 87 else -1
def hexZ (c : UInt8) : Int := hexI c.toNat

theorem Tryd.hexAll : (List.range 256).map (fun (n : Nat) (H : AH) => acall 8 [] (lk Tryd.ext) (lk Tryd.tab) 20 67 [.int .u8 (n : Int)] H) = (List.range 256).map (fun (n : Nat) (H : AH) => some (.ok (.int .i64 (hexI n)), H)) := by kernel_rfl
theorem Tryd.hexaAll : (List.range 256).map (fun (n : Nat) (H : AH) => acall 8 [] (lk Tryd.ext) (lk Tryd.tab) 20 71 [.int .u8 (n : Int)] H) = (List.range 256).map (fun (n : Nat) (H : AH) => some (.ok (.int .i64 (hexI n)), H)) := by kernel_rfl

theorem Tryd.hex (c : UInt8) (H : AH) : Tryd.call 67 [.int .u8 c.toNat] H = some (.ok (.int .i64 (hexZ c)), H) :=
  ecall_of 8 [] _ _ (n := 20) (congrFun (List.map_inj_left.1 Tryd.hexAll c.toNat (List.mem_range.2 c.toNat_lt)) H)
theorem Tryd.hexa (c : UInt8) (H : AH) : Tryd.call 71 [.int .u8 c.toNat] H = some (.ok (.int .i64 (hexZ c)), H) :=
  ecall_of 8 [] _ _ (n := 20) (congrFun (List.map_inj_left.1 Tryd.hexaAll c.toNat (List.mem_range.2 c.toNat_lt)) H)

theorem hexZ_lt (c : UInt8) : -1 ≤ hexZ c ∧ hexZ c ≤ 15 := by
  unfold hexZ hexI
  split
  · omega
  · split <;> omega

/-- The byte of two hexadecimal digits. -/
def escX : List UInt8 → Option (UInt8 × Nat)
  | a :: b :: _ => if hexZ a < 0 ∨ hexZ b < 0 then none else some (UInt8.ofNat (16 * hexZ a + hexZ b).toNat, 4)
  | _ => none
/-- The byte of a sequence, and its length. -/
def escO : List UInt8 → Option (UInt8 × Nat)
  | _ :: c :: t => if c = 34 ∨ c = 92 then some (c, 2) else if c = 110 then some (10, 2) else if c = 120 then escX t else none
  | _ => none

/-- The byte that a quoted string begins with, and its length there. -/
def stepU : List UInt8 → Option (UInt8 × Nat)
  | [] => none
  | c :: t => if plainB c.toNat = true then some (c, 1) else if c = 92 then escO (c :: t) else none

theorem stepU_cons (c : UInt8) (t : List UInt8) : stepU (c :: t) = if plainB c.toNat = true then some (c, 1) else if c = 92 then escO (c :: t) else none := rfl
theorem escO_two (x c : UInt8) (t : List UInt8) : escO (x :: c :: t) = if c = 34 ∨ c = 92 then some (c, 2) else if c = 110 then some (10, 2) else if c = 120 then escX t else none := rfl

theorem hexB_hex : ∀ n : Fin 16, hexZ (hexB n.val) = (n.val : Int) := by decide
theorem hexZ_hexB {n : Nat} (h : n < 16) : hexZ (hexB n) = (n : Int) := hexB_hex ⟨n, h⟩

theorem plain_not {c : UInt8} (h : plainB c.toNat = true) : c ≠ 34 ∧ c ≠ 92 := by
  constructor
  · rintro rfl; revert h; decide
  · rintro rfl; revert h; decide

theorem quote1_cases (x : UInt8) : (plainB x.toNat = true ∧ quote1 x = [x]) ∨ ((x = 34 ∨ x = 92) ∧ quote1 x = [92, x]) ∨ (x = 10 ∧ quote1 x = [92, 110]) ∨ quote1 x = [92, 120, hexB (x.toNat / 16), hexB (x.toNat % 16)] := by
  unfold quote1
  by_cases h1 : plainB x.toNat = true
  · rw [if_pos h1]; exact .inl ⟨h1, rfl⟩
  · rw [if_neg h1]
    by_cases h2 : x = 34 ∨ x = 92
    · rw [if_pos h2]; exact .inr (.inl ⟨h2, rfl⟩)
    · rw [if_neg h2]
      by_cases h3 : x = 10
      · rw [if_pos h3]; exact .inr (.inr (.inl ⟨h3, rfl⟩))
      · rw [if_neg h3]; exact .inr (.inr (.inr rfl))

theorem stepU_quote (x : UInt8) (t : List UInt8) : stepU (quote1 x ++ t) = some (x, (quote1 x).length) := by
  have h92 : ¬ plainB (92 : UInt8).toNat = true := by decide
  rcases quote1_cases x with ⟨h, e⟩ | ⟨h, e⟩ | ⟨h, e⟩ | e
  · rw [e]
    show stepU (x :: t) = _
    rw [stepU_cons, if_pos h]; rfl
  · rw [e]
    show stepU (92 :: x :: t) = _
    rw [stepU_cons, if_neg h92, if_pos rfl, escO_two, if_pos h]; rfl
  · rw [e]
    show stepU (92 :: 110 :: t) = _
    rw [stepU_cons, if_neg h92, if_pos rfl, escO_two, if_neg (by decide), if_pos rfl, h]; rfl
  · rw [e]
    show stepU (92 :: 120 :: hexB (x.toNat / 16) :: hexB (x.toNat % 16) :: t) = _
    have hx := x.toNat_lt
    have h1 := hexZ_hexB (n := x.toNat / 16) (by omega)
    have h2 := hexZ_hexB (n := x.toNat % 16) (by omega)
    rw [stepU_cons, if_neg h92, if_pos rfl, escO_two, if_neg (by decide), if_neg (by decide), if_pos rfl, escX, h1, h2, if_neg (by omega)]
    have e1 : (16 * ((x.toNat / 16 : Nat) : Int) + ((x.toNat % 16 : Nat) : Int)).toNat = x.toNat := by omega
    rw [e1, UInt8.ofNat_toNat]; rfl

theorem quote1_pos (x : UInt8) : 0 < (quote1 x).length := by
  rcases quote1_cases x with ⟨h, e⟩ | ⟨h, e⟩ | ⟨h, e⟩ | e <;> rw [e] <;> simp
theorem quote1_head (x : UInt8) : (quote1 x).head? ≠ some 34 := by
  rcases quote1_cases x with ⟨h, e⟩ | ⟨h, e⟩ | ⟨h, e⟩ | e <;> rw [e]
  · intro h2; rw [List.head?_cons, Option.some.injEq] at h2; exact (plain_not h).1 h2
  all_goals (intro h2; rw [List.head?_cons, Option.some.injEq] at h2; revert h2; decide)

theorem escX_len {s : List UInt8} {c : UInt8} {n : Nat} (h : escX s = some (c, n)) : n = 4 ∧ 2 ≤ s.length := by
  cases s with
  | nil => cases h
  | cons a s =>
    cases s with
    | nil => cases h
    | cons b s =>
      rw [escX] at h
      split at h
      · cases h
      · simp only [Option.some.injEq, Prod.mk.injEq] at h
        exact ⟨h.2.symm, by simp⟩

theorem escO_len {s : List UInt8} {c : UInt8} {n : Nat} (h : escO s = some (c, n)) : 1 ≤ n ∧ n ≤ s.length := by
  cases s with
  | nil => cases h
  | cons a s =>
    cases s with
    | nil => cases h
    | cons b s =>
      rw [escO_two] at h
      simp only [List.length_cons]
      split at h
      · simp only [Option.some.injEq, Prod.mk.injEq] at h; omega
      · split at h
        · simp only [Option.some.injEq, Prod.mk.injEq] at h; omega
        · split at h
          · have := escX_len h; omega
          · cases h

theorem stepU_len {s : List UInt8} {c : UInt8} {n : Nat} (h : stepU s = some (c, n)) : 1 ≤ n ∧ n ≤ s.length := by
  cases s with
  | nil => cases h
  | cons a s =>
    rw [stepU_cons] at h
    split at h
    · simp only [Option.some.injEq, Prod.mk.injEq] at h; simp only [List.length_cons]; omega
    · split at h
      · exact escO_len h
      · cases h

/-- What escape gives. -/
def escR (s : List UInt8) : List AV := match escO s with
  | some (c, n) => [.int .u8 c.toNat, .int .i64 n]
  | none => [.int .u8 0, .int .i64 0]

theorem u8_small {n : Int} (h0 : 0 ≤ n) (h1 : n < 256) : IntKind.u8.wrap n = n := by
  have : ∀ m : Fin 256, IntKind.u8.wrap (m.val : Int) = (m.val : Int) := by decide +kernel
  have h2 := this ⟨n.toNat, by omega⟩
  dsimp only at h2
  rw [show ((n.toNat : Nat) : Int) = n by omega] at h2
  exact h2

theorem Tryd.escape (s : List UInt8) (hs : s.length ≤ 1000000) (H : AH) : Tryd.call 55 [.str s] H = some (.ok (.tup (escR s)), H) := by
  have hp : pack (escR s) = .tup (escR s) := by unfold escR; split <;> rfl
  rw [← hp]
  refine ecall_flat 8 [] _ _ (out := escR s) rfl rfl rfl (views_flat rfl (views_nil H 8)) (by unfold escR; split <;> rfl) ?_
  show W Tryd.call _ _ _ _ _
  simp only [Tryd.fn55, Tryd.fn55_r0, AmR, kp, exe, number, Arg.val, Env.at, lk, putd, ok1, Option.getD_some, if_true, if_false, reduceCtorEq, List.append_nil]
  by_cases hl : s.length < 2
  · have hr : escR s = [.int .u8 0, .int .i64 0] := by
      cases s with
      | nil => rfl
      | cons a s =>
        cases s with
        | nil => rfl
        | cons b s => simp only [List.length_cons] at hl; omega
    have d2 : decide ((s.length : Int) < 2) = true := decide_eq_true (by omega)
    rw [hr]
    simp only [Tryd.fn55_r1, Tryd.fn55_r2, d2, AmR, kp, pushA, exe, Arg.val, Env.at, lk, putd, ok1, okM, abin, Option.getD_some, if_true, if_false, reduceCtorEq, Nat.reduceEqDiff, resAll, resOf]
  · obtain ⟨x, c, t, rfl⟩ : ∃ x c t, s = x :: c :: t := by
      cases s with
      | nil => simp at hl
      | cons a s =>
        cases s with
        | nil => simp at hl
        | cons b s => exact ⟨a, b, s, rfl⟩
    have h01 : (0 : Int) ≤ 1 := by decide
    have h02 : (0 : Int) ≤ 2 := by decide
    have h03 : (0 : Int) ≤ 3 := by decide
    have t1 : (1 : Int).toNat = 1 := rfl
    have t2 : (2 : Int).toNat = 2 := rfl
    have t3 : (3 : Int).toNat = 3 := rfl
    have hc : (x :: c :: t)[1]? = some c := rfl
    have four : ¬ ((x :: c :: t).length : Int) < 4 → ∃ a b, (x :: c :: t)[2]? = some a ∧ (x :: c :: t)[3]? = some b ∧ escX t = if hexZ a < 0 ∨ hexZ b < 0 then none else some (UInt8.ofNat (16 * hexZ a + hexZ b).toNat, 4) := fun h => by
      cases t with
      | nil => simp at h
      | cons a t =>
        cases t with
        | nil => simp at h
        | cons b t => exact ⟨a, b, rfl, rfl, rfl⟩
    have tiny : ((x :: c :: t).length : Int) < 4 → escX t = none := fun h => by
      cases t with
      | nil => rfl
      | cons a t =>
        cases t with
        | nil => rfl
        | cons b t => simp only [List.length_cons] at h; omega
    have hne : ∀ k : UInt8, c ≠ k → ((c.toNat : Int) == (k.toNat : Int)) = false := fun k h => by
      rw [beq_eq_false_iff_ne]
      intro e
      exact h (UInt8.toNat_inj.1 (by omega))
    have e34 : c ≠ 34 → ((c.toNat : Int) == 34) = false := hne 34
    have e92 : c ≠ 92 → ((c.toNat : Int) == 92) = false := hne 92
    have e110 : c ≠ 110 → ((c.toNat : Int) == 110) = false := hne 110
    have e120 : c ≠ 120 → ((c.toNat : Int) == 120) = false := hne 120
    have heq : ∀ k : UInt8, c = k → ((c.toNat : Int) == (k.toNat : Int)) = true := fun k h => by rw [h]; exact beq_self_eq_true _
    have q34 : c = 34 → ((c.toNat : Int) == 34) = true := heq 34
    have q92 : c = 92 → ((c.toNat : Int) == 92) = true := heq 92
    have q110 : c = 110 → ((c.toNat : Int) == 110) = true := heq 110
    have q120 : c = 120 → ((c.toNat : Int) == 120) = true := heq 120
    have hhex := Tryd.hex
    unfold escR
    rw [escO_two]
    have d2 : decide (((x :: c :: t).length : Int) < 2) = false := decide_eq_false (by omega)
    generalize hX : escX t = X at *
    generalize (x :: c :: t) = s at *
    simp only [Tryd.fn55_r1, d2, AmR, kp, pushA, exe, Arg.val, Env.at, lk, putd, ok1, okM, abin, Option.getD_some, if_true, if_false, reduceCtorEq, Nat.reduceEqDiff]
    simp only [Tryd.fn55_r3, h01, t1, hc, AmR, kp, exe, Arg.val, Env.at, lk, putd, ok1, okM, Option.getD_some, if_true, if_false, reduceCtorEq, Nat.reduceEqDiff, Option.map_some]
    by_cases c34 : c = 34
    · rw [if_pos (.inl c34)]
      have q := q34 c34
      simp only [Tryd.fn55_r4, q, AmR, kp, pushA, exe, Arg.val, Env.at, lk, putd, ok1, okM, abin, Option.getD_some, if_true, if_false, reduceCtorEq, Nat.reduceEqDiff, Int.cast_ofNat_Int]
      simp only [Tryd.fn55_r6, h01, t1, hc, AmR, kp, exe, Arg.val, Env.at, lk, putd, ok1, okM, Option.getD_some, if_true, if_false, reduceCtorEq, Nat.reduceEqDiff, resAll, resOf, Option.map_some]
    · have n34 := e34 c34
      by_cases c92 : c = 92
      · rw [if_pos (.inr c92)]
        have q := q92 c92
        simp only [Tryd.fn55_r4, Tryd.fn55_r5, n34, q, AmR, kp, pushA, exe, Arg.val, Env.at, lk, putd, ok1, okM, abin, Option.getD_some, if_true, if_false, reduceCtorEq, Nat.reduceEqDiff, Int.cast_ofNat_Int]
        simp only [Tryd.fn55_r6, h01, t1, hc, AmR, kp, exe, Arg.val, Env.at, lk, putd, ok1, okM, Option.getD_some, if_true, if_false, reduceCtorEq, Nat.reduceEqDiff, resAll, resOf, Option.map_some]
      · have n92 := e92 c92
        rw [if_neg (by rintro (h | h); exact c34 h; exact c92 h)]
        by_cases c110 : c = 110
        · rw [if_pos c110]
          have q := q110 c110
          have v10 : ((10 : UInt8).toNat : Int) = 10 := rfl
          simp only [Tryd.fn55_r4, Tryd.fn55_r5, n34, n92, AmR, kp, pushA, exe, Arg.val, Env.at, lk, putd, ok1, okM, abin, Option.getD_some, if_true, if_false, reduceCtorEq, Nat.reduceEqDiff, Int.cast_ofNat_Int]
          simp only [Tryd.fn55_r7, Tryd.fn55_r8, q, v10, AmR, kp, pushA, exe, Arg.val, Env.at, lk, putd, ok1, okM, abin, Option.getD_some, if_true, if_false, reduceCtorEq, Nat.reduceEqDiff, resAll, resOf]
        · have n110 := e110 c110
          rw [if_neg c110]
          by_cases c120 : c = 120
          · rw [if_pos c120]
            have q := q120 c120
            simp only [Tryd.fn55_r4, Tryd.fn55_r5, n34, n92, AmR, kp, pushA, exe, Arg.val, Env.at, lk, putd, ok1, okM, abin, Option.getD_some, if_true, if_false, reduceCtorEq, Nat.reduceEqDiff]
            simp only [Tryd.fn55_r7, Tryd.fn55_r9, n110, q, AmR, kp, pushA, exe, Arg.val, Env.at, lk, putd, ok1, okM, abin, Option.getD_some, if_true, if_false, reduceCtorEq, Nat.reduceEqDiff]
            by_cases h4 : (s.length : Int) < 4
            · have d4 : decide ((s.length : Int) < 4) = true := decide_eq_true h4
              rw [tiny h4]
              simp only [Tryd.fn55_r10, Tryd.fn55_r11, Tryd.fn55_r12, d4, AmR, kp, pushA, exe, Arg.val, Env.at, lk, putd, ok1, okM, abin, Option.getD_some, if_true, if_false, reduceCtorEq, Nat.reduceEqDiff, resAll, resOf]
            · have d4 : decide ((s.length : Int) < 4) = false := decide_eq_false h4
              obtain ⟨a, b, ha, hb, hx⟩ := four h4
              rw [hx]
              have la := hexZ_lt a
              have lb := hexZ_lt b
              by_cases ca : hexZ a < 0
              · have da : decide (hexZ a < 0) = true := decide_eq_true ca
                rw [if_pos (.inl ca)]
                simp only [Tryd.fn55_r10, Tryd.fn55_r11, Tryd.fn55_r12, d4, h02, t2, ha, hhex, da, AmR, kp, pushA, exe, Arg.val, Env.at, lk, putd, ok1, okM, abin, Option.getD_some, if_true, if_false, reduceCtorEq, Nat.reduceEqDiff, Bool.false_eq_true, resAll, resOf, List.map_cons, List.map_nil, Option.map_some]
              · have da : decide (hexZ a < 0) = false := decide_eq_false ca
                by_cases cb : hexZ b < 0
                · have db : decide (hexZ b < 0) = true := decide_eq_true cb
                  rw [if_pos (.inr cb)]
                  simp only [Tryd.fn55_r10, Tryd.fn55_r11, Tryd.fn55_r12, d4, h02, t2, h03, t3, ha, hb, hhex, da, db, AmR, kp, pushA, exe, Arg.val, Env.at, lk, putd, ok1, okM, abin, Option.getD_some, if_true, if_false, reduceCtorEq, Nat.reduceEqDiff, Bool.false_eq_true, resAll, resOf, List.map_cons, List.map_nil, Option.map_some]
                · have db : decide (hexZ b < 0) = false := decide_eq_false cb
                  rw [if_neg (by rintro (h | h); exact ca h; exact cb h)]
                  have w1 : IntKind.i64.wrap (16 * hexZ a) = 16 * hexZ a := IntWalk.i64_in _ (by omega)
                  have w2 : IntKind.i64.wrap (16 * hexZ a + hexZ b) = 16 * hexZ a + hexZ b := IntWalk.i64_in _ (by omega)
                  have w3 : IntKind.u8.wrap (16 * hexZ a + hexZ b) = 16 * hexZ a + hexZ b := u8_small (by omega) (by omega)
                  have w4 : ((UInt8.ofNat (16 * hexZ a + hexZ b).toNat).toNat : Int) = 16 * hexZ a + hexZ b := by
                    rw [UInt8.toNat_ofNat', Nat.mod_eq_of_lt (by omega)]; omega
                  simp only [Tryd.fn55_r10, Tryd.fn55_r11, d4, h02, t2, h03, t3, ha, hb, hhex, da, db, AmR, kp, pushA, exe, Arg.val, Env.at, lk, putd, ok1, okM, abin, Option.getD_some, if_true, if_false, reduceCtorEq, Nat.reduceEqDiff, Bool.false_eq_true, List.map_cons, List.map_nil, Option.map_some, Int.cast_ofNat_Int]
                  refine W_drawn' (by kernel_rfl) ?_
                  simp only [Tryd.fn55_r13, Tryd.fn55_r13a, h02, t2, h03, t3, ha, hb, hhex, w1, w2, w3, w4, AmR, kp, exe, Arg.val, Env.at, lk, putd, ok1, okM, abin, Option.getD_some, if_true, if_false, reduceCtorEq, Nat.reduceEqDiff, Nat.reduceAdd, resAll, resOf, and_true, List.append_nil, visH, List.flatMap_nil, List.map_cons, List.map_nil, Option.map_some]
          · have n120 := e120 c120
            rw [if_neg c120]
            simp only [Tryd.fn55_r4, Tryd.fn55_r5, n34, n92, AmR, kp, pushA, exe, Arg.val, Env.at, lk, putd, ok1, okM, abin, Option.getD_some, if_true, if_false, reduceCtorEq, Nat.reduceEqDiff]
            simp only [Tryd.fn55_r7, Tryd.fn55_r9, n110, n120, AmR, kp, pushA, exe, Arg.val, Env.at, lk, putd, ok1, okM, abin, Option.getD_some, if_true, if_false, reduceCtorEq, Nat.reduceEqDiff]
            simp only [Tryd.fn55_r14, AmR, kp, exe, Arg.val, Env.at, lk, putd, ok1, Option.getD_some, if_true, if_false, reduceCtorEq, Nat.reduceEqDiff, resAll, resOf]

end Go.Am
