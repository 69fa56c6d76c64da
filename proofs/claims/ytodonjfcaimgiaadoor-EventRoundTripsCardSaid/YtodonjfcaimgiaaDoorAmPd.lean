/-
Numbers of the specification; hexadecimal digits. Conditions: those that each theorem names.
-/
import Derived.Test.YtodonjfcaimgiaaDoorAmPc
set_option linter.unusedSimpArgs false
set_option linter.unusedVariables false
namespace Go.Am

def farN : Nat := 9007199254740992

/-- What the loop holds: the value of the digits, or more than is asked. -/
def NumInv (N v : Nat) : Prop := N ≤ 10 * farN + 9 ∧ (v ≤ farN → N = v) ∧ (farN < v → farN < N)

theorem Tryd.u8_sub48 {c : UInt8} (h : 48 ≤ c.toNat) : IntKind.u8.wrap ((c.toNat : Int) - 48) = ((c.toNat - 48 : Nat) : Int) := by
  have h1 : ∀ n : Fin 256, 48 ≤ n.val → IntKind.u8.wrap ((n.val : Int) - 48) = ((n.val - 48 : Nat) : Int) := by decide +kernel
  exact h1 ⟨c.toNat, c.toNat_lt⟩ h

theorem Tryd.numRefLoop (s : List UInt8) (hs : s.length ≤ 1000000) (m : Bool) (H : AH) (K : AX → St → Prop) (ks : List Fr) (L : ACode) (hL : L = .loop (some [0, 4, 5, 6]) Tryd.fn42_l0)
    (hk : s.all dig8 = true → ∀ e (N : Nat), NumInv N (val s) → e.at 4 = .bool m → e.at 5 = .int .i64 N → Nx Tryd.call K ks e H) (hr : s.all dig8 = false → ∀ e, e.at 2 = .int .i64 0 → e.at 3 = .bool false → Rt Tryd.call K ks e H) : ∀ (n i N : Nat), n + i = s.length → (s.take i).all dig8 = true → NumInv N (val (s.take i)) →
    W Tryd.call K (.block 0 :: ks) [(0, .str s), (4, .bool m), (5, .int .i64 N), (6, .int .i64 i)] H L := by
  intro n
  induction n with
  | zero =>
    intro i N hi hd hv
    refine W_loopN hL ?_
    have hi' : i = s.length := by omega
    subst hi'
    rw [List.take_length] at hd hv
    simp only [Tryd.fn42_l0, Tryd.fn42_r9, AmR, kp, pushA, exe, Arg.val, Env.at, lk, putd, ok1, okM, abin, Option.getD_some, if_true, if_false, reduceCtorEq, Nat.reduceEqDiff]
    exact ⟨fun h => absurd h (by omega), fun _ => hk hd _ N hv rfl rfl⟩
  | succ n ih =>
    intro i N hi hd hv
    refine W_loopN hL ?_
    obtain ⟨c, hc⟩ : ∃ c, s[i]? = some c := ⟨_, List.getElem?_eq_getElem (by omega)⟩
    have h0 : (0 : Int) ≤ (i : Int) := by omega
    have h1 : ((i : Int) < (s.length : Int)) = True := eq_true (by omega)
    have hw : IntKind.i64.wrap ((i : Int) + 1) = ((i + 1 : Nat) : Int) := by rw [IntWalk.i64_in _ (by omega)]; omega
    have hlt := c.toNat_lt
    have hmem : c ∈ s := List.mem_of_getElem? hc
    have vs := val_step hc
    have bad : dig8 c = false → s.all dig8 = false := fun hf => by
      rw [List.all_eq_false]
      exact ⟨c, hmem, by rw [hf]; decide⟩
    obtain ⟨i1, i2, i3⟩ := hv
    unfold farN at i1 i2 i3
    simp only [Tryd.fn42_l0, Tryd.fn42_r9, h1, AmR, kp, pushA, exe, Arg.val, Env.at, lk, putd, ok1, okM, abin, Option.getD_some, if_true, if_false, reduceCtorEq, Nat.reduceEqDiff, decide_true]
    by_cases hc1 : (c.toNat : Int) < 48
    · have d1 : decide ((c.toNat : Int) < 48) = true := decide_eq_true hc1
      have hf : dig8 c = false := decide_eq_false (by omega)
      simp only [Tryd.fn42_r10, Tryd.fn42_r11, h0, Int.toNat_natCast, hc, d1, AmR, kp, pushA, exe, Arg.val, Env.at, lk, putd, ok1, okM, abin, Option.getD_some, if_true, if_false, reduceCtorEq, Nat.reduceEqDiff, Option.map_some]
      exact hr (bad hf) _ rfl rfl
    · have d1 : decide ((c.toNat : Int) < 48) = false := decide_eq_false hc1
      by_cases hc2 : (c.toNat : Int) > 57
      · have d2 : decide ((c.toNat : Int) > 57) = true := decide_eq_true hc2
        have hf : dig8 c = false := decide_eq_false (by omega)
        simp only [Tryd.fn42_r10, Tryd.fn42_r11, h0, Int.toNat_natCast, hc, d1, d2, AmR, kp, pushA, exe, Arg.val, Env.at, lk, putd, ok1, okM, abin, Option.getD_some, if_true, if_false, reduceCtorEq, Nat.reduceEqDiff, Bool.false_eq_true, Option.map_some]
        exact hr (bad hf) _ rfl rfl
      · have d2 : decide ((c.toNat : Int) > 57) = false := decide_eq_false hc2
        have hf : dig8 c = true := decide_eq_true (by omega)
        have us := Tryd.u8_sub48 (c := c) (by omega)
        have hd' : (s.take (i + 1)).all dig8 = true := by rw [List.take_add_one, hc, Option.toList_some, List.all_append, hd]; simp [hf]
        simp only [Tryd.fn42_r10, h0, Int.toNat_natCast, hc, d1, d2, AmR, kp, pushA, exe, Arg.val, Env.at, lk, putd, ok1, okM, abin, Option.getD_some, if_true, if_false, reduceCtorEq, Nat.reduceEqDiff, Bool.false_eq_true, Option.map_some]
        simp only [Tryd.fn42_r12, AmR, kp, pushA, exe, Arg.val, Env.at, lk, putd, ok1, okM, abin, Option.getD_some, if_true, if_false, reduceCtorEq, Nat.reduceEqDiff]
        have w3 : IntKind.i64.wrap ((c.toNat - 48 : Nat) : Int) = ((c.toNat - 48 : Nat) : Int) := IntWalk.i64_in _ (by omega)
        refine ⟨fun hb => ?_, fun hb => ?_⟩
        · have w1 : IntKind.i64.wrap (10 * (N : Int)) = ((10 * N : Nat) : Int) := by rw [IntWalk.i64_in _ (by omega)]; omega
          have w2 : IntKind.i64.wrap (((10 * N : Nat) : Int) + ((c.toNat - 48 : Nat) : Int)) = ((10 * N + (c.toNat - 48) : Nat) : Int) := by rw [IntWalk.i64_in _ (by omega)]; omega
          simp only [Tryd.fn42_r13, h0, Int.toNat_natCast, hc, w1, us, w3, w2, AmR, kp, exe, Arg.val, Env.at, lk, putd, ok1, okM, abin, Option.getD_some, if_true, if_false, reduceCtorEq, Nat.reduceEqDiff, Option.map_some]
          simp only [Tryd.fn42_r14, hw, AmR, kp, exe, Arg.val, Env.at, lk, putd, ok1, okM, abin, Option.getD_some, if_true, if_false, reduceCtorEq, Nat.reduceEqDiff]
          refine ih (i + 1) _ (by omega) hd' ?_
          rw [vs]
          unfold NumInv farN
          omega
        · simp only [Tryd.fn42_r14, hw, AmR, kp, exe, Arg.val, Env.at, lk, putd, ok1, okM, abin, Option.getD_some, if_true, if_false, reduceCtorEq, Nat.reduceEqDiff]
          refine ih (i + 1) _ (by omega) hd' ?_
          rw [vs]
          unfold NumInv farN
          omega

/-- A number, or one beyond what is asked. -/
def clampZ (v : Int) : Int := if 9007199254740992 < v then 9007199254740993 else if v < -9007199254740992 then -9007199254740993 else v

def NumCP (s : List UInt8) (H : AH) (vs : List AV) (H' : AH) : Prop := H' = H ∧ ∃ (n : Int) (is : Bool), vs = [.int .i64 n, .bool is] ∧ is = (numZ s).isSome ∧ ∀ v, numZ s = some v → n = clampZ v

theorem NumCP.bad {s : List UInt8} {H : AH} (hn : numZ s = none) (H1 : AH) : Back 8 H (NumCP s H) [.int .i64 0, .bool false] H1 := by
  refine back_flat rfl ⟨rfl, 0, false, rfl, by rw [hn]; rfl, fun v hv => ?_⟩
  rw [hn] at hv; cases hv

theorem Tryd.numRef (s : List UInt8) (hs : s.length ≤ 1000000) (H : AH) : ∃ (n : Int) (is : Bool), Tryd.call 42 [.str s] H = some (.ok (.tup [.int .i64 n, .bool is]), H) ∧ is = (numZ s).isSome ∧ ∀ v, numZ s = some v → n = clampZ v := by
  suffices h : W Tryd.call (endK Tryd.fn42.res (Back 8 H (NumCP s H))) [] [(0, .str s)] ⟨[], 8, 8⟩ Tryd.fn42.code by
    obtain ⟨vs, H', ⟨rfl, n, is, rfl, hr⟩, hc⟩ := ecall_vE 8 [] (lk Tryd.ext) (lk Tryd.tab) (f := 42) (fn := Tryd.fn42) (args := [.str s]) (H := H) rfl rfl rfl (views_flat rfl (views_nil H 8)) h
    exact ⟨n, is, hc, hr⟩
  have h0 : (0 : Int) ≤ 0 := Int.le_refl 0
  have tail : ∀ (m : Bool) (d : List UInt8), magS s = d → d.length ≤ 1000000 → m = decide (s.head? = some 45) → (s ≠ [48] ↔ (m = true ∨ d ≠ [48])) → ∀ e : Env, e.at 0 = .str d → e.at 4 = .bool m → Rg Tryd.call (endK [.tmp 2, .tmp 3] (Back 8 H (NumCP s H))) [.code (.trim [0, 4, 19, 23, 26]), .code (.seq (.reg Tryd.fn42_r5)
   (.trim [0, 4, 31])), .code (.cond (.t 31)
   (.seq (.seq (.reg Tryd.fn42_r6)
    (.trim [2, 3]))
   .ret)
   .skip), .code (.seq (.seq (.reg Tryd.fn42_r7)
  (.trim [0, 4, 5]))
 (.seq (.seq (.seq (.reg Tryd.fn42_r8)
   (.trim [0, 4, 5, 6]))
  (.block 0
   (.loop (some [0, 4, 5, 6])
    Tryd.fn42_l0)))
 (.seq (.seq (.seq (.reg Tryd.fn42_r15)
   (.trim [4, 5, 59]))
  (.cond (.t 59)
   (.seq (.reg Tryd.fn42_r16)
   (.trim [4, 5]))
   .skip))
 (.seq (.seq (.seq (.reg Tryd.fn42_r17)
   (.trim [5, 60]))
  (.cond (.t 60)
   (.seq (.seq (.reg Tryd.fn42_r18)
    (.trim [2, 3]))
   .ret)
   .skip))
 (.seq (.seq (.reg Tryd.fn42_r19)
  (.trim [2, 3]))
 .ret)))))] e ⟨[], 8, 8⟩ Tryd.fn42_r4 := by
    intro m d hd hdl hm h48s e he0 he4
    simp only [Env.at] at he0 he4
    have fin : ¬ (magS s = [] ∨ ((magS s).head? = some 48 ∧ s ≠ [48])) → ∀ e (N : Nat), d.all dig8 = true → NumInv N (val d) → e.at 4 = .bool m → e.at 5 = .int .i64 N → Nx Tryd.call (endK [.tmp 2, .tmp 3] (Back 8 H (NumCP s H))) [.code (.seq (.seq (.seq (.reg Tryd.fn42_r15)
   (.trim [4, 5, 59]))
  (.cond (.t 59)
   (.seq (.reg Tryd.fn42_r16)
   (.trim [4, 5]))
   .skip))
 (.seq (.seq (.seq (.reg Tryd.fn42_r17)
   (.trim [5, 60]))
  (.cond (.t 60)
   (.seq (.seq (.reg Tryd.fn42_r18)
    (.trim [2, 3]))
   .ret)
   .skip))
 (.seq (.seq (.reg Tryd.fn42_r19)
  (.trim [2, 3]))
 .ret)))] e ⟨[], 8, 8⟩ := by
      intro hgood e N hdig ⟨i1, i2, i3⟩ he4 he5
      have hn := numZ_good hgood (by rw [hd]; exact hdig)
      rw [hd] at hn
      simp only [Env.at] at he4 he5
      unfold farN at i1 i2 i3
      have out : ∀ (z : Int) (H1 : AH), z = clampZ (if s.head? = some 45 then -(val d : Int) else val d) → Back 8 H (NumCP s H) [.int .i64 z, .bool true] H1 := fun z H1 hz => by
        refine back_flat rfl ⟨rfl, z, true, rfl, by rw [hn]; rfl, fun v h => ?_⟩
        rw [hn, Option.some.injEq] at h
        rw [← h, hz]
      have wn : IntKind.i64.wrap (0 - (N : Int)) = -(N : Int) := by rw [IntWalk.i64_in _ (by omega)]; omega
      simp only [Tryd.fn42_r15, he4, he5, AmR, kp, pushA, exe, Arg.val, Env.at, lk, putd, ok1, okM, abin, Option.getD_some, if_true, if_false, Nat.reduceEqDiff]
      unfold clampZ at out
      cases m with
      | true =>
        have h45 : s.head? = some 45 := of_decide_eq_true hm.symm
        rw [if_pos h45] at out
        refine ⟨fun hb => ?_, fun hb => ?_⟩
        · simp only [Tryd.fn42_r16, Tryd.fn42_r17, Tryd.fn42_r18, AmR, kp, pushA, exe, Arg.val, Env.at, lk, putd, ok1, okM, Option.getD_some, if_true, if_false, Nat.reduceEqDiff, resAll, resOf, Option.some.injEq, aun, Int.reduceNeg, Int.reduceSub, exists_eq_left']
          refine out _ _ ?_
          have : IntKind.i64.wrap (-9007199254740993) = -9007199254740993 := by decide
          first | rw [this] | skip
          rw [if_neg (by omega), if_pos (by omega)]
        · simp only [Tryd.fn42_r17, Tryd.fn42_r18, wn, AmR, kp, pushA, exe, Arg.val, Env.at, lk, putd, ok1, okM, Option.getD_some, if_true, if_false, Nat.reduceEqDiff, resAll, resOf, Option.some.injEq, aun, exists_eq_left']
          refine out _ _ ?_
          rw [if_neg (by omega), if_neg (by omega)]
          omega
      | false =>
        have h45 : ¬ s.head? = some 45 := of_decide_eq_false hm.symm
        rw [if_neg h45] at out
        refine ⟨fun hb => ?_, fun hb => ?_⟩
        · simp only [Tryd.fn42_r16, Tryd.fn42_r17, Tryd.fn42_r19, AmR, kp, pushA, exe, Arg.val, Env.at, lk, putd, ok1, Option.getD_some, if_true, if_false, Nat.reduceEqDiff, resAll, resOf, Option.some.injEq, exists_eq_left']
          refine out _ _ ?_
          rw [if_pos (by omega)]
        · simp only [Tryd.fn42_r17, Tryd.fn42_r19, AmR, kp, pushA, exe, Arg.val, Env.at, lk, putd, ok1, Option.getD_some, if_true, if_false, Nat.reduceEqDiff, resAll, resOf, Option.some.injEq, exists_eq_left']
          refine out _ _ ?_
          rw [if_neg (by omega), if_neg (by omega)]
          omega
    have body : ∀ e : Env, e.at 0 = .str d → e.at 4 = .bool m → ¬ (magS s = [] ∨ ((magS s).head? = some 48 ∧ s ≠ [48])) → Rg Tryd.call (endK [.tmp 2, .tmp 3] (Back 8 H (NumCP s H))) [.code (.trim [0, 4, 5]), .code (.seq (.seq (.seq (.reg Tryd.fn42_r8)
   (.trim [0, 4, 5, 6]))
  (.block 0
   (.loop (some [0, 4, 5, 6])
    Tryd.fn42_l0)))
 (.seq (.seq (.seq (.reg Tryd.fn42_r15)
   (.trim [4, 5, 59]))
  (.cond (.t 59)
   (.seq (.reg Tryd.fn42_r16)
   (.trim [4, 5]))
   .skip))
 (.seq (.seq (.seq (.reg Tryd.fn42_r17)
   (.trim [5, 60]))
  (.cond (.t 60)
   (.seq (.seq (.reg Tryd.fn42_r18)
    (.trim [2, 3]))
   .ret)
   .skip))
 (.seq (.seq (.reg Tryd.fn42_r19)
  (.trim [2, 3]))
 .ret))))] e ⟨[], 8, 8⟩ Tryd.fn42_r7 := by
      intro e he0 he4 hgood
      simp only [Env.at] at he0 he4
      simp only [Tryd.fn42_r7, he0, he4, Tryd.fn42_r8, AmR, kp, exe, Arg.val, Env.at, lk, putd, ok1, Option.getD_some, if_true, if_false, reduceCtorEq, Nat.reduceEqDiff]
      refine Tryd.numRefLoop d hdl m _ _ _ _ rfl ?_ ?_ d.length 0 0 (by omega) (by simp) (by simp [val, NumInv])
      · intro hdig e N hN he4 he5
        exact fin hgood e N hdig hN he4 he5
      · intro hdig e h2 h3
        simp only [Rt_code, Rt_nil]
        rw [endK_ret]
        exact ⟨_, by simp only [resAll, resOf, h2, h3], NumCP.bad (numZ_letter (by rw [hd]; exact hdig)) _⟩
    by_cases hd0 : d = []
    · have hb : (d == ([] : List UInt8)) = true := by rw [hd0]; rfl
      simp only [Tryd.fn42_r4, Tryd.fn42_r5, Tryd.fn42_r6, he0, he4, hb, AmR, kp, pushA, exe, Arg.val, Env.at, lk, putd, ok1, okM, abin, Option.getD_some, if_true, if_false, reduceCtorEq, Nat.reduceEqDiff, resAll, resOf, Option.some.injEq, exists_eq_left']
      exact NumCP.bad (numZ_bad (.inl (by rw [hd, hd0]))) _
    · obtain ⟨c, hc⟩ : ∃ c, d[0]? = some c := ⟨_, List.getElem?_eq_getElem (List.length_pos_iff.2 hd0)⟩
      have hh : (magS s).head? = some c := by rw [hd, List.head?_eq_getElem?]; exact hc
      have hb : (d == ([] : List UInt8)) = false := by rw [beq_eq_false_iff_ne]; exact hd0
      by_cases h48 : c = 48
      · have e48 : ((c.toNat : Int) == 48) = true := by rw [h48]; rfl
        by_cases hlen : (d.length : Int) > 1
        · have d1 : decide ((d.length : Int) > 1) = true := decide_eq_true hlen
          have hs48 : s ≠ [48] := h48s.2 (.inr fun e => by rw [e] at hlen; simp at hlen)
          simp only [Tryd.fn42_r4, Tryd.fn42_r5, Tryd.fn42_r6, he0, he4, hb, h0, Int.toNat_zero, hc, e48, d1, AmR, kp, pushA, exe, Arg.val, Env.at, lk, putd, ok1, okM, abin, Option.getD_some, if_true, if_false, reduceCtorEq, Nat.reduceEqDiff, Bool.false_eq_true, resAll, resOf, Option.some.injEq, Option.map_some, exists_eq_left']
          exact NumCP.bad (numZ_bad (.inr ⟨by rw [hh, h48], hs48⟩)) _
        · have d1 : decide ((d.length : Int) > 1) = false := decide_eq_false hlen
          have hd48 : d = [48] := by
            match d, hc, hlen with
            | [a], hc, _ => rw [List.getElem?_cons_zero, Option.some.injEq] at hc; rw [hc, h48]
            | a :: b :: l, _, hlen => exact absurd (by simp only [List.length_cons]; omega) hlen
          cases m with
          | true =>
            have hs48 : s ≠ [48] := h48s.2 (.inl rfl)
            simp only [Tryd.fn42_r4, Tryd.fn42_r5, Tryd.fn42_r6, he0, he4, hb, h0, Int.toNat_zero, hc, e48, d1, AmR, kp, pushA, exe, Arg.val, Env.at, lk, putd, ok1, okM, abin, Option.getD_some, if_true, if_false, reduceCtorEq, Nat.reduceEqDiff, Bool.false_eq_true, resAll, resOf, Option.some.injEq, Option.map_some, exists_eq_left']
            exact NumCP.bad (numZ_bad (.inr ⟨by rw [hh, h48], hs48⟩)) _
          | false =>
            simp only [Tryd.fn42_r4, Tryd.fn42_r5, Tryd.fn42_r6, he0, he4, hb, h0, Int.toNat_zero, hc, e48, d1, AmR, kp, pushA, exe, Arg.val, Env.at, lk, putd, ok1, okM, abin, Option.getD_some, if_true, if_false, reduceCtorEq, Nat.reduceEqDiff, Bool.false_eq_true, Option.map_some]
            refine body _ rfl rfl ?_
            rintro (h | ⟨_, h⟩)
            · exact hd0 (by rw [← hd]; exact h)
            · rcases h48s.1 h with h | h
              · cases h
              · exact h hd48
      · have e48 : ((c.toNat : Int) == 48) = false := by
          rw [beq_eq_false_iff_ne]
          intro h
          exact h48 (UInt8.toNat_inj.1 (by show c.toNat = 48; omega))
        simp only [Tryd.fn42_r4, Tryd.fn42_r5, Tryd.fn42_r6, he0, he4, hb, h0, Int.toNat_zero, hc, e48, AmR, kp, pushA, exe, Arg.val, Env.at, lk, putd, ok1, okM, abin, Option.getD_some, if_true, if_false, reduceCtorEq, Nat.reduceEqDiff, Bool.false_eq_true, Option.map_some]
        refine body _ rfl rfl ?_
        rintro (h | ⟨h, _⟩)
        · exact hd0 (by rw [← hd]; exact h)
        · rw [hh] at h; exact h48 (Option.some.inj h)
  simp only [Tryd.fn42, Tryd.fn42_r0, AmR, kp, exe, Arg.val, Env.at, lk, putd, ok1, Option.getD_some, if_true, if_false, reduceCtorEq]
  by_cases h45 : s.head? = some 45
  · obtain ⟨d, rfl⟩ : ∃ d, s = 45 :: d := by
      cases s with
      | nil => cases h45
      | cons a l => rw [List.head?_cons, Option.some.injEq] at h45; exact ⟨l, by rw [h45]⟩
    have ht := tail true d rfl (by rw [List.length_cons] at hs; omega) (decide_eq_true h45).symm ⟨fun _ => .inl rfl, fun _ => by simp⟩
    have e1 : ((45 :: d) == ([] : List UInt8)) = false := rfl
    have e2 : (45 :: d)[0]? = some (45 : UInt8) := rfl
    have e3 : (((45 : UInt8).toNat : Int) == 45) = true := rfl
    have hl : (45 :: d).length = d.length + 1 := rfl
    have b1 : bnds (45 :: d).length (45 :: d).length (some (.int .i64 (1 : Int))) none = some (1, (45 :: d).length) := by rw [bnds_lo (by omega) (by omega)]; rfl
    have htk : (45 :: d).drop 1 = d := rfl
    have htk2 : d.take ((45 :: d).length - 1) = d := List.take_of_length_le (by omega)
    clear tail
    generalize (45 :: d) = s at *
    simp only [Tryd.fn42_r1, e1, h0, Int.toNat_zero, e2, e3, AmR, kp, exe, Arg.val, Env.at, lk, putd, ok1, okM, abin, Option.getD_some, if_true, if_false, Bool.not_false, reduceCtorEq, Nat.reduceEqDiff, Option.map_some]
    simp only [Tryd.fn42_r2, AmR, kp, pushA, exe, Arg.val, Env.at, lk, putd, ok1, Option.getD_some, if_true, if_false, reduceCtorEq, Nat.reduceEqDiff]
    simp only [Tryd.fn42_r3, b1, htk, htk2, AmR, kp, exe, Arg.val, Env.at, lk, putd, ok1, Option.getD_some, if_true, if_false, reduceCtorEq, Nat.reduceEqDiff, Option.map_some, Option.map_none]
    exact ht _ rfl rfl
  · have ht := tail false s (magS_plain h45) hs (decide_eq_false h45).symm ⟨fun h => .inr h, fun h => by rcases h with h | h; cases h; exact h⟩
    cases hs0 : s with
    | nil =>
      rw [hs0] at ht
      have e1 : (([] : List UInt8) == []) = true := rfl
      simp only [Tryd.fn42_r1, e1, AmR, kp, exe, Arg.val, Env.at, lk, putd, ok1, okM, abin, Option.getD_some, if_true, if_false, Bool.not_true, reduceCtorEq, Nat.reduceEqDiff, Bool.false_eq_true]
      simp only [Tryd.fn42_r2, AmR, kp, pushA, exe, Arg.val, Env.at, lk, putd, ok1, Option.getD_some, if_true, if_false, reduceCtorEq, Nat.reduceEqDiff]
      exact ht _ rfl rfl
    | cons c l =>
      have e1 : (s == ([] : List UInt8)) = false := by rw [hs0]; rfl
      have e2 : s[0]? = some c := by rw [hs0]; rfl
      have e3 : ((c.toNat : Int) == 45) = false := by
        rw [beq_eq_false_iff_ne]
        intro h
        refine h45 ?_
        rw [hs0, List.head?_cons]
        exact congrArg some (UInt8.toNat_inj.1 (by show c.toNat = 45; omega))
      rw [← hs0]
      simp only [Tryd.fn42_r1, e1, h0, Int.toNat_zero, e2, e3, AmR, kp, exe, Arg.val, Env.at, lk, putd, ok1, okM, abin, Option.getD_some, if_true, if_false, Bool.not_false, reduceCtorEq, Nat.reduceEqDiff, Option.map_some]
      simp only [Tryd.fn42_r2, AmR, kp, pushA, exe, Arg.val, Env.at, lk, putd, ok1, Option.getD_some, if_true, if_false, reduceCtorEq, Nat.reduceEqDiff]
      exact ht _ rfl rfl

end Go.Am
