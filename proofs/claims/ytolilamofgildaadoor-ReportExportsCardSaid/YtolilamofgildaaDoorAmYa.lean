/-
Numerals and lines of outs. Conditions: those that each theorem names.
-/
import Derived.Test.YtolilamofgildaaDoorAmKj
import Derived.Test.YtolilamofgildaaDoorAmV
set_option linter.unusedSimpArgs false
set_option linter.unusedVariables false
namespace Go.Am

theorem dec_rest {u : Nat} (h : u ≠ 0) : Lib.decDigits u = (if u / 10 = 0 then [] else Lib.decDigits (u / 10)) ++ [UInt8.ofNat (48 + u % 10)] := by
  rw [Lib.decDigits]
  by_cases hlt : u < 10
  · rw [dif_pos hlt, if_pos (by omega), Nat.mod_eq_of_lt hlt]; rfl
  · rw [dif_neg hlt, if_neg (by omega)]

theorem Tryd.decLoop (n : Nat) (hn : n ≤ 1099511627776) (K : AX → St → Prop) (ks : List Fr) (L : ACode) (H : AH) (hL : L = .loop (some [0, 3, 4, 5]) Tryd.fn50_l0) (T : List UInt8) :
    ∀ (m u : Nat) (acc : List UInt8), u ≤ m → u ≤ n → acc.length ≤ 20 → u * 10 ^ acc.length ≤ n → (if u = 0 then [] else Lib.decDigits u) ++ acc = T →
      (∀ a b, Nx Tryd.call K ks [(11, .bool false), (0, .int .i64 n), (3, .str [48, 49, 50, 51, 52, 53, 54, 55, 56, 57]), (4, a), (5, .str T), (11, b)] H) →
      W Tryd.call K (.block 0 :: ks) [(0, .int .i64 n), (3, .str [48, 49, 50, 51, 52, 53, 54, 55, 56, 57]), (4, .int .i64 u), (5, .str acc)] H L := by
  intro m
  induction m using Nat.strongRecOn with
  | ind m ih =>
    intro u acc hu hun h2 h3 hT hd
    refine W_loopN hL ?_
    by_cases h0 : u = 0
    · subst h0
      rw [if_pos rfl, List.nil_append] at hT
      subst hT
      have e1 : (((0 : Nat) : Int) != 0) = false := rfl
      simp only [Tryd.fn50_l0, Tryd.fn50_r6, AmR, kp, pushA, exe, Arg.val, Env.at, lk, putd, ok1, okM, abin, Option.getD_some, if_true, if_false, reduceCtorEq, Nat.reduceEqDiff, bne_self_eq_false, Int.cast_ofNat_Int]
      exact hd _ _
    · have e1 : (((u : Nat) : Int) != 0) = true := by simpa using h0
      have hm : (u : Int).tmod 10 = ((u % 10 : Nat) : Int) := (Int.ofNat_tmod u 10).symm
      have hq : IntKind.i64.wrap ((u : Int).tdiv 10) = ((u / 10 : Nat) : Int) := by
        have h1 : (u : Int).tdiv 10 = ((u / 10 : Nat) : Int) := (Int.ofNat_tdiv u 10).symm
        rw [h1, IntWalk.i64_in _ (by omega)]
      have hlt : u % 10 < 10 := by omega
      have hneg : (((u % 10 : Nat) : Int) < 0) = False := eq_false (by omega)
      have hw := succ_wrap (i := u % 10) (by omega)
      have hb := bnds_in (n := 10) (a := u % 10) (b := u % 10 + 1) (by omega) (by omega)
      have h4 : u % 10 + 1 - u % 10 = 1 := by omega
      have hl20 : acc.length < 20 := by
        by_cases h : acc.length < 20
        · exact h
        · have e : acc.length = 20 := by omega
          rw [e] at h3
          have : 1 * 10 ^ 20 ≤ u * 10 ^ 20 := Nat.mul_le_mul_right _ (by omega)
          omega
      simp only [Tryd.fn50_l0, Tryd.fn50_r6, e1, AmR, kp, pushA, exe, Arg.val, Env.at, lk, putd, ok1, okM, abin, Option.getD_some, if_true, if_false, reduceCtorEq, Nat.reduceEqDiff]
      simp only [Tryd.fn50_r7, hm, AmR, kp, exe, Arg.val, Env.at, lk, putd, ok1, okM, abin, Option.getD_some, if_true, if_false, reduceCtorEq, Nat.reduceEqDiff, Int.reduceEq]
      simp only [Tryd.fn50_r8, hneg, AmR, kp, pushA, exe, Arg.val, Env.at, lk, putd, ok1, okM, abin, Option.getD_some, if_true, if_false, reduceCtorEq, Nat.reduceEqDiff, decide_false]
      have hle : (1 + acc.length ≤ 281474976710656) = True := eq_true (by omega)
      simp only [Tryd.fn50_r10, hw, hb, h4, fig_one hlt, hle, AmR, kp, exe, Arg.val, Env.at, lk, putd, ok1, okM, abin, Option.getD_some, if_true, if_false, reduceCtorEq, Nat.reduceEqDiff, Nat.reduceAdd, List.nil_append, List.length_cons, List.length_nil, Option.map_some, List.cons_append]
      simp only [Tryd.fn50_r11, hq, AmR, kp, exe, Arg.val, Env.at, lk, putd, ok1, okM, abin, Option.getD_some, if_true, if_false, reduceCtorEq, Nat.reduceEqDiff, Int.reduceEq]
      refine ih (u / 10) (by omega) (u / 10) (UInt8.ofNat (48 + u % 10) :: acc) (Nat.le_refl _) (by omega) (by simp; omega) ?_ ?_ hd
      · rw [List.length_cons, Nat.pow_succ]
        have : u / 10 * (10 ^ acc.length * 10) = (u / 10 * 10) * 10 ^ acc.length := by rw [Nat.mul_comm (10 ^ acc.length) 10, Nat.mul_assoc]
        rw [this]
        exact Nat.le_trans (Nat.mul_le_mul_right _ (by omega)) h3
      · rw [← hT, if_neg h0, dec_rest h0]
        simp

theorem Tryd.decimal5 (n : Nat) (hn : n ≤ 1099511627776) (H : AH) : Tryd.call 50 [.int .i64 n] H = some (.ok (.str (Lib.decDigits n)), H) := by
  refine ecall_W 6 [] _ _ (out := [.str (Lib.decDigits n)]) rfl rfl rfl ?_
  show W Tryd.call _ _ _ _ _
  by_cases h0 : n = 0
  · subst h0
    have e1 : (((0 : Nat) : Int) == 0) = true := rfl
    have e2 : Lib.decDigits 0 = [48] := by rw [Lib.decDigits, dif_pos (by omega)]; rfl
    rw [e2]
    simp only [Tryd.fn50, Tryd.fn50_r0, AmR, kp, exe, number, Arg.val, Env.at, lk, putd, ok1, Option.getD_some, if_true, if_false, reduceCtorEq, Int.cast_ofNat_Int]
    simp only [Tryd.fn50_r1, AmR, Cd_beq, kp, pushA, exe, Arg.val, Env.at, lk, putd, ok1, okM, abin, Option.getD_some, if_true, if_false, reduceCtorEq, Nat.reduceEqDiff]
    simp only [Tryd.fn50_r2, exactK_ret, AmR, kp, exe, Arg.val, Env.at, lk, putd, ok1, Option.getD_some, if_true, if_false, reduceCtorEq, Nat.reduceEqDiff, resAll, resOf, and_true]
    exact ⟨fun _ => trivial, fun h => absurd trivial h⟩
  · have e1 : (((n : Nat) : Int) == 0) = false := by simpa using h0
    have e2 : (((n : Nat) : Int) < 0) = False := eq_false (by omega)
    simp only [Tryd.fn50, Tryd.fn50_r0, AmR, kp, exe, number, Arg.val, Env.at, lk, putd, ok1, Option.getD_some, if_true, if_false, reduceCtorEq]
    simp only [Tryd.fn50_r1, e1, AmR, kp, pushA, exe, Arg.val, Env.at, lk, putd, ok1, okM, abin, Option.getD_some, if_true, if_false, reduceCtorEq, Nat.reduceEqDiff]
    simp only [Tryd.fn50_r3, AmR, kp, exe, Arg.val, Env.at, lk, putd, ok1, Option.getD_some, if_true, if_false, reduceCtorEq, Nat.reduceEqDiff]
    simp only [Tryd.fn50_r4, AmR, kp, exe, Arg.val, Env.at, lk, putd, ok1, Option.getD_some, if_true, if_false, reduceCtorEq, Nat.reduceEqDiff]
    simp only [Tryd.fn50_r5, AmR, kp, exe, Arg.val, Env.at, lk, putd, ok1, Option.getD_some, if_true, if_false, reduceCtorEq, Nat.reduceEqDiff]
    refine Tryd.decLoop n hn _ _ _ H rfl (Lib.decDigits n) n n [] (Nat.le_refl _) (Nat.le_refl _) (by simp) (by simp) (by rw [if_neg h0]; simp) fun a b => ?_
    simp only [Tryd.fn50_r12, e2, AmR, kp, pushA, exe, Arg.val, Env.at, lk, putd, ok1, okM, abin, Option.getD_some, if_true, if_false, reduceCtorEq, Nat.reduceEqDiff, decide_false]
    simp only [Tryd.fn50_r14, exactK_ret, AmR, kp, exe, Arg.val, Env.at, lk, putd, ok1, Option.getD_some, if_true, if_false, Nat.reduceEqDiff, resAll, resOf, and_true]

theorem itoa_nat (n : Nat) : Lib.itoa (n : Int) = Lib.decDigits n := by
  unfold Lib.itoa
  rw [if_neg (by omega)]
  rfl

/-! ### What can be exported -/

def OutR.fits (x : OutR) : Bool := decide (0 ≤ x.node ∧ x.node < 16 ∧ 0 ≤ x.at' ∧ x.at' ≤ 1099511627776) && x.ev.ok
def OutR.line (x : OutR) : List UInt8 := Lib.itoa x.node ++ 32 :: (Lib.itoa x.at' ++ 32 :: (lineL x.ev ++ [10]))
def OutR.av (x : OutR) : AV := .agg x.cells

theorem Tryd.fits (x : OutR) (H : AH) : Tryd.call 28 [x.av] H = some (.ok (.bool x.fits), H) := by
  refine ecall_flat 6 [] _ _ (out := [.bool x.fits]) rfl rfl rfl (views_agg x.flat (views_nil H 6)) rfl ?_
  show W Tryd.call _ _ _ _ _
  have hv := Tryd.valid x.ev
  obtain ⟨nd, at', k, f, t, v, a, d, ft⟩ := x
  simp only [Ev.av, Ev.cells] at hv
  generalize hr : OutR.fits ⟨nd, at', k, f, t, v, a, d, ft⟩ = r
  generalize hok : Ev.ok ⟨k, f, t, v, a, d, ft⟩ = ok at hv
  simp only [OutR.cells, Ev.cells]
  simp only [Tryd.fn28, Tryd.fn28_r0, Tryd.fn28_r1, Tryd.fn28_r2, Tryd.fn28_r3, hv, AmR, kp, exe, number, Arg.val, Env.at, lk, putd, AV.cells?, ok1, okM, AH.push, AH.get, abin, Option.getD_some, if_true, if_false, List.getElem?_cons_zero, List.getElem?_cons_succ, reduceCtorEq, Nat.reduceEqDiff, Nat.reduceAdd, Bool.false_eq_true, resAll, resOf, Option.some.injEq, List.cons.injEq, AV.bool.injEq, and_true, List.append_nil, Nat.reduceLeDiff, List.map_cons, List.map_nil, AH.cellsAt, List.length_cons, List.length_nil, List.drop_zero, List.take_succ_cons, List.take_zero, List.drop_succ_cons, Option.map_some]
  subst hr
  subst hok
  simp only [OutR.fits]
  refine ⟨fun h1 => ⟨fun h2 => ⟨fun h3 => ⟨fun h4 => ?_, fun h4 => ?_⟩, fun h3 => ?_⟩, fun h2 => ?_⟩, fun h1 => ?_⟩
  · rw [decide_eq_true (show 0 ≤ nd ∧ nd < 16 ∧ 0 ≤ at' ∧ at' ≤ 1099511627776 from ⟨h1, h2, h3, h4⟩)]; rfl
  all_goals (rw [decide_eq_false (by omega)]; rfl)

theorem Tryd.can (x : OutR) (H : AH) : Tryd.call 33 [x.av] H = some (.ok (.bool x.fits), H) := by
  refine ecall_flat 6 [] _ _ (out := [.bool x.fits]) rfl rfl rfl (views_agg x.flat (views_nil H 6)) rfl ?_
  show W Tryd.call _ _ _ _ _
  have hv := Tryd.validRef x.ev
  obtain ⟨nd, at', k, f, t, v, a, d, ft⟩ := x
  simp only [Ev.av, Ev.cells] at hv
  generalize hr : OutR.fits ⟨nd, at', k, f, t, v, a, d, ft⟩ = r
  generalize hok : Ev.ok ⟨k, f, t, v, a, d, ft⟩ = ok at hv
  simp only [OutR.cells, Ev.cells]
  simp only [Tryd.fn33, Tryd.fn33_r0, Tryd.fn33_r1, Tryd.fn33_r2, Tryd.fn33_r3, hv, AmR, kp, exe, number, Arg.val, Env.at, lk, putd, AV.cells?, ok1, okM, AH.push, AH.get, abin, Option.getD_some, if_true, if_false, List.getElem?_cons_zero, List.getElem?_cons_succ, reduceCtorEq, Nat.reduceEqDiff, Nat.reduceAdd, Bool.false_eq_true, resAll, resOf, Option.some.injEq, List.cons.injEq, AV.bool.injEq, and_true, List.append_nil, Nat.reduceLeDiff, List.map_cons, List.map_nil, AH.cellsAt, List.length_cons, List.length_nil, List.drop_zero, List.take_succ_cons, List.take_zero, List.drop_succ_cons, Option.map_some]
  subst hr
  subst hok
  simp only [OutR.fits]
  refine ⟨fun h1 => ⟨fun h2 => ⟨fun h3 => ⟨fun h4 => ?_, fun h4 => ?_⟩, fun h3 => ?_⟩, fun h2 => ?_⟩, fun h1 => ?_⟩
  · rw [decide_eq_true (show 0 ≤ nd ∧ nd < 16 ∧ 0 ≤ at' ∧ at' ≤ 1099511627776 from ⟨h1, h2, h3, h4⟩)]; rfl
  all_goals (rw [decide_eq_false (by omega)]; rfl)

theorem itoa_len20 {n : Int} (h0 : -9223372036854775808 ≤ n) (h1 : n ≤ 9223372036854775807) : (Lib.itoa n).length ≤ 21 := by
  unfold Lib.itoa
  split
  · have := decDigits_len n.natAbs 19 (by omega); simp; omega
  · have := decDigits_len n.toNat 19 (by omega); omega

theorem Tryd.lineOut (x : OutR) (hx : x.fits = true) (H : AH) : Tryd.call 34 [x.av] H = some (.ok (.str x.line), H) := by
  refine ecall_flat 6 [] _ _ (out := [.str x.line]) rfl rfl rfl (views_agg x.flat (views_nil H 6)) rfl ?_
  show W Tryd.call _ _ _ _ _
  unfold OutR.fits at hx
  simp only [Bool.and_eq_true, decide_eq_true_eq] at hx
  obtain ⟨⟨h1, h2, h3, h4⟩, hok⟩ := hx
  have hl := Tryd.lineRef x.ev
  obtain ⟨nd, hnd⟩ : ∃ n : Nat, x.node = (n : Int) := ⟨x.node.toNat, by omega⟩
  obtain ⟨tm, htm⟩ : ∃ n : Nat, x.at' = (n : Int) := ⟨x.at'.toNat, by omega⟩
  have d1 := Tryd.decimal5 nd (by omega)
  have d2 := Tryd.decimal5 tm (by omega)
  have hxl : x.line = Lib.decDigits nd ++ 32 :: (Lib.decDigits tm ++ 32 :: (lineL x.ev ++ [10])) := by unfold OutR.line; rw [hnd, htm, itoa_nat, itoa_nat]
  have g1 := decDigits_len nd 19 (by omega)
  have g2 := decDigits_len tm 19 (by omega)
  obtain ⟨n0, t0, e⟩ := x
  simp only at hnd htm hok hl hxl
  subst hnd
  subst htm
  have hl := fun H => hl H hok
  obtain ⟨k, f, t, v, a, d, ft⟩ := e
  simp only [Ev.av, Ev.cells] at hl
  rw [hxl]
  have g3 := lineL_len _ hok
  generalize lineL ⟨k, f, t, v, a, d, ft⟩ = ll at *
  generalize Lib.decDigits nd = A at *
  generalize Lib.decDigits tm = B at *
  have c1 : A.length + 1 ≤ 281474976710656 := by omega
  have c2 : (A ++ [32]).length + B.length ≤ 281474976710656 := by simp; omega
  have c3 : (A ++ [32] ++ B).length ≤ 281474976710655 := by simp; omega
  have c4 : (A ++ [32] ++ B ++ [32]).length + ll.length ≤ 281474976710656 := by simp; omega
  have c5 : (A ++ [32] ++ B ++ [32] ++ ll).length ≤ 281474976710655 := by simp; omega
  have eT : A ++ [32] ++ B ++ [32] ++ ll ++ [10] = A ++ 32 :: (B ++ 32 :: (ll ++ [10])) := by simp
  simp only [OutR.cells, Ev.cells]
  simp only [Tryd.fn34, Tryd.fn34_r0, AmR, kp, exe, number, Arg.val, Env.at, lk, putd, AV.cells?, ok1, AH.push, Option.getD_some, if_true, if_false, reduceCtorEq, Nat.reduceEqDiff, Nat.reduceAdd, List.append_nil]
  simp only [Tryd.fn34_r1, hl, AmR, kp, exe, Arg.val, Env.at, lk, putd, ok1, okM, AH.get, Option.getD_some, if_true, if_false, List.getElem?_cons_zero, List.getElem?_cons_succ, Nat.reduceEqDiff, Nat.reduceAdd, Nat.reduceLeDiff, List.map_cons, List.map_nil, AH.cellsAt, List.length_cons, List.length_nil, List.drop_zero, List.take_succ_cons, List.take_zero, List.drop_succ_cons, Option.map_some]
  refine W_drawn' (by kernel_rfl) ?_
  simp only [Tryd.fn34_r2, Tryd.fn34_r2a, Tryd.fn34_r2b, d1, d2, c1, c2, c3, c4, c5, eT, AmR, kp, exe, Arg.val, Env.at, lk, putd, ok1, okM, AH.get, abin, Option.getD_some, if_true, if_false, List.getElem?_cons_zero, List.getElem?_cons_succ, Nat.reduceEqDiff, Nat.reduceAdd, resAll, resOf, and_true, List.nil_append, visH, List.filter_nil, List.flatMap_nil, List.contains_cons, List.contains_nil, Bool.or_false, Nat.reduceLeDiff, List.map_cons, List.map_nil, List.length_cons, List.length_nil]

end Go.Am
