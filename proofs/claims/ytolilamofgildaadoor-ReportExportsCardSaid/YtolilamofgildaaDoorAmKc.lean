/-
Contracts of the numerals of the specification. Conditions: those that each theorem names.
-/
import Derived.Test.YtolilamofgildaaDoorAmKb
set_option linter.unusedSimpArgs false
set_option linter.unusedVariables false
namespace Go.Am

theorem fig_one {u : Nat} (h : u < 10) : (List.take 1 (List.drop u [48, 49, 50, 51, 52, 53, 54, 55, 56, 57]) : List UInt8) = [UInt8.ofNat (48 + u)] := by
  have : u = 0 ∨ u = 1 ∨ u = 2 ∨ u = 3 ∨ u = 4 ∨ u = 5 ∨ u = 6 ∨ u = 7 ∨ u = 8 ∨ u = 9 := by omega
  rcases this with rfl | rfl | rfl | rfl | rfl | rfl | rfl | rfl | rfl | rfl <;> rfl

theorem bnds_some {n m : Nat} {k k' : IntKind} {l h : Int} (h0 : 0 ≤ l) (h1 : l ≤ h) (h2 : h ≤ (m : Int)) : bnds n m (some (.int k l)) (some (.int k' h)) = some (l.toNat, h.toNat) := by
  have a1 : (0 : Int) ≤ h ∧ h ≤ (m : Int) := ⟨by omega, h2⟩
  have a2 : (0 : Int) ≤ l ∧ l ≤ ((h.toNat : Nat) : Int) := ⟨h0, by omega⟩
  simp only [bnds, bnd, a1, and_self, if_true, a2]

theorem decDigits_len (u : Nat) (k : Nat) (h : u < 10 ^ (k + 1)) : (Lib.decDigits u).length ≤ k + 1 := by
  induction k generalizing u with
  | zero => rw [Lib.decDigits, dif_pos (by simpa using h)]; simp
  | succ k ih =>
    rw [Lib.decDigits]
    split
    · simp
    · have : u / 10 < 10 ^ (k + 1) := by rw [Nat.pow_succ] at h; omega
      have := ih (u / 10) this
      simp; omega

theorem Tryd.digits (u : Nat) : ∀ (H : AH), (u : Int) ≤ 9223372036854775807 → Tryd.call 78 [.int .i64 u] H = some (.ok (.str (Lib.decDigits u)), H) := by
  induction u using Nat.strongRecOn with
  | ind u ih =>
    intro H hu
    refine ecall_flat 6 [] _ _ (out := [.str (Lib.decDigits u)]) rfl rfl rfl (views_flat rfl (views_nil H 6)) rfl ?_
    generalize hr : Lib.decDigits u = r
    simp only [Tryd.fn78, AmR, number, List.append_nil]
    simp only [Tryd.fn78_r0, AmR, kp, exe, Arg.val, Env.at, lk, putd, ok1, Option.getD_some, if_true, if_false, reduceCtorEq]
    simp only [Tryd.fn78_r1, AmR, kp, pushA, exe, Arg.val, Env.at, lk, putd, ok1, okM, abin, Option.getD_some, if_true, if_false, reduceCtorEq, Nat.reduceEqDiff]
    refine ⟨fun h => ?_, fun h => ?_⟩
    · have hlt : u < 10 := by omega
      have hw : IntKind.i64.wrap ((u : Int) + 1) = (u : Int) + 1 := IntWalk.i64_in _ (by omega)
      have hb : bnds 10 10 (some (.int .i64 (u : Int))) (some (.int .i64 ((u : Int) + 1))) = some (u, u + 1) := bnds_some (n := 10) (m := 10) (l := u) (h := (u : Int) + 1) (by omega) (by omega) (by omega)
      have h3 : u + 1 - u = 1 := by omega
      simp only [Tryd.fn78_r2, hw, hb, h3, fig_one hlt, AmR, kp, exe, Arg.val, Env.at, lk, putd, ok1, okM, abin, Option.getD_some, if_true, if_false, reduceCtorEq, Nat.reduceEqDiff, Nat.reduceAdd, resAll, resOf, Option.some.injEq, List.cons.injEq, AV.str.injEq, and_true, List.length_cons, List.length_nil, Option.map_some]
      subst hr
      rw [Lib.decDigits, dif_pos hlt]
    · have hge : ¬ u < 10 := by omega
      have hq : IntKind.i64.wrap ((u : Int).tdiv 10) = ((u / 10 : Nat) : Int) := by
        have h1 : (u : Int).tdiv 10 = ((u / 10 : Nat) : Int) := (Int.ofNat_tdiv u 10).symm
        rw [h1, IntWalk.i64_in _ (by omega)]
      have hm : (u : Int).tmod 10 = ((u % 10 : Nat) : Int) := (Int.ofNat_tmod u 10).symm
      have hlt : u % 10 < 10 := by omega
      have hw : IntKind.i64.wrap (((u % 10 : Nat) : Int) + 1) = ((u % 10 : Nat) : Int) + 1 := IntWalk.i64_in _ (by omega)
      have hb : bnds 10 10 (some (.int .i64 ((u % 10 : Nat) : Int))) (some (.int .i64 (((u % 10 : Nat) : Int) + 1))) = some (u % 10, u % 10 + 1) := bnds_some (n := 10) (m := 10) (l := ((u % 10 : Nat) : Int)) (h := ((u % 10 : Nat) : Int) + 1) (by omega) (by omega) (by omega)
      have h3 : u % 10 + 1 - u % 10 = 1 := by omega
      have hc := fun H => ih (u / 10) (by omega) H (by omega)
      unfold Tryd.call at hc
      have hl := decDigits_len (u / 10) 19 (by omega)
      have hle : (Lib.decDigits (u / 10)).length + 1 ≤ 281474976710656 := by omega
      refine W_drawn' (by kernel_rfl) ?_
      simp only [Tryd.fn78_r3, Tryd.fn78_r3a, hq, hm, hw, hb, h3, hc, fig_one hlt, hle, AmR, kp, exe, Arg.val, Env.at, lk, putd, ok1, okM, abin, Option.getD_some, if_true, if_false, reduceCtorEq, Nat.reduceEqDiff, Nat.reduceAdd, resAll, resOf, Option.some.injEq, List.cons.injEq, AV.str.injEq, and_true, true_and, List.append_nil, visH, List.flatMap_nil, List.map_cons, List.map_nil, List.length_cons, List.length_nil, Option.map_some, Int.reduceEq]
      subst hr
      conv => rhs; rw [Lib.decDigits]
      rw [dif_neg hge]

theorem Tryd.decimal (n : Int) (H : AH) (h0 : -9223372036854775807 ≤ n) (h1 : n ≤ 9223372036854775807) : Tryd.call 62 [.int .i64 n] H = some (.ok (.str (Lib.itoa n)), H) := by
  refine ecall_flat 6 [] _ _ (out := [.str (Lib.itoa n)]) rfl rfl rfl (views_flat rfl (views_nil H 6)) rfl ?_
  generalize hr : Lib.itoa n = r
  simp only [Tryd.fn62, AmR, number, List.append_nil]
  simp only [Tryd.fn62_r0, AmR, kp, exe, Arg.val, Env.at, lk, putd, ok1, Option.getD_some, if_true, if_false, reduceCtorEq]
  simp only [Tryd.fn62_r1, AmR, kp, pushA, exe, Arg.val, Env.at, lk, putd, ok1, okM, abin, Option.getD_some, if_true, if_false, reduceCtorEq, Nat.reduceEqDiff]
  refine ⟨fun h => ?_, fun h => ?_⟩
  · have hw : IntKind.i64.wrap (0 - n) = ((n.natAbs : Nat) : Int) := by rw [IntWalk.i64_in _ (by omega)]; omega
    have hc := fun H => Tryd.digits n.natAbs H (by omega)
    unfold Tryd.call at hc
    have hl := decDigits_len n.natAbs 19 (by omega)
    have hle : 0 + 1 + (Lib.decDigits n.natAbs).length ≤ 281474976710656 := by omega
    simp only [Tryd.fn62_r2, hw, hc, hle, AmR, kp, exe, Arg.val, Env.at, lk, putd, ok1, okM, abin, Option.getD_some, if_true, if_false, reduceCtorEq, Nat.reduceEqDiff, Nat.reduceAdd, resAll, resOf, Option.some.injEq, List.cons.injEq, AV.str.injEq, and_true, List.nil_append, aun, List.map_cons, List.map_nil, List.length_cons, List.length_nil, List.cons_append]
    subst hr
    rw [Lib.itoa, if_pos h]
  · have hc := fun H => Tryd.digits n.toNat H (by omega)
    unfold Tryd.call at hc
    have hn : ((n.toNat : Nat) : Int) = n := by omega
    rw [hn] at hc
    simp only [Tryd.fn62_r3, hc, AmR, kp, exe, Arg.val, Env.at, lk, putd, ok1, Option.getD_some, if_true, if_false, reduceCtorEq, Nat.reduceEqDiff, resAll, resOf, Option.some.injEq, List.cons.injEq, AV.str.injEq, and_true, List.map_cons, List.map_nil]
    subst hr
    rw [Lib.itoa, if_neg h]

end Go.Am
