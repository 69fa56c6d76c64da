/-
The words and the numbers of a line of an event. Conditions: those that each theorem names.
-/
import Derived.Test.YtodonjfcaimgiaaDoorAmPa
import Derived.Lib.AtoiAllCases
set_option linter.unusedSimpArgs false
set_option linter.unusedVariables false
namespace Go.Am

/-! ### A call by value of flat values does not depend on the heap -/

theorem backs_same {H1 H : AH} {kp : Nat} : ∀ {vs vs' : List AV}, backs H1 kp H vs = some (vs', H) → vs.all flat2 = true ∧ vs' = vs
  | [], vs', h => by
    simp only [backs, Option.some.injEq, Prod.mk.injEq, and_true] at h
    exact ⟨rfl, h.symm⟩
  | v :: vs, vs', h => by
    unfold backs at h
    split at h
    · rename_i hv
      split at h
      · rename_i vs2 H2 h2
        simp only [Option.some.injEq, Prod.mk.injEq] at h
        obtain ⟨rfl, rfl⟩ := h
        obtain ⟨h3, rfl⟩ := backs_same h2
        exact ⟨by simp only [List.all_cons, hv, h3, Bool.and_self], rfl⟩
      · cases h
    · split at h
      · split at h
        · split at h
          · split at h
            · simp only [Option.some.injEq, Prod.mk.injEq] at h
              have := congrArg AH.next h.2
              simp only at this
              omega
            · cases h
          · cases h
        · cases h
      · cases h

theorem ecall_any {G : Nat} {T : List (Nat × Blk)} {X : Ext} {M : Tab} {f : FuncId} {fn : AFun} {args us : List AV} (hX : X f = none) (hM : M f = some fn) (hv : fn.view = true) (hvw : ∀ H, views H args G = some (us, [], G)) {H0 : AH} {o : AV} (h : ecall G T X M f args H0 = some (.ok o, H0)) (H : AH) : ecall G T X M f args H = some (.ok o, H) := by
  obtain ⟨n, h⟩ := ecall_some G T X M h
  refine ecall_of G T X M (n := n) ?_
  cases n with
  | zero => cases h
  | succ n =>
    rw [acall] at h ⊢
    simp only [hX, hM, hv, if_true, hvw] at h ⊢
    generalize run (acall G T X M n) n fn.code ⟨number us 0, ⟨[] ++ T, G, G⟩⟩ = o1 at h ⊢
    have fin : ∀ s : St, (match resAll s.e s.H fn.res with
        | some vs => match backs s.H G H0 vs with
          | some (vs', H') => some (Out.ok (pack vs'), H')
          | none => none
        | none => none) = some (Out.ok o, H0) → (match resAll s.e s.H fn.res with
        | some vs => match backs s.H G H vs with
          | some (vs', H') => some (Out.ok (pack vs'), H')
          | none => none
        | none => none) = some (Out.ok o, H) := fun s h => by
      cases hvs : resAll s.e s.H fn.res with
      | none => rw [hvs] at h; cases h
      | some vs =>
        rw [hvs] at h
        dsimp only at h ⊢
        cases hb : backs s.H G H0 vs with
        | none => rw [hb] at h; cases h
        | some p =>
          obtain ⟨vs', H'⟩ := p
          rw [hb] at h
          simp only [Option.some.injEq, Prod.mk.injEq, Out.ok.injEq] at h
          obtain ⟨rfl, rfl⟩ := h
          obtain ⟨h1, rfl⟩ := backs_same hb
          rw [backs_flat h1]
    match o1, h with
    | some (.nrm, s), h => exact fin s h
    | some (.ret, s), h => exact fin s h
    | some (.exit _, _), h => cases h
    | some (.pan _, _), h => cases h
    | none, h => cases h

/-! ### What Atoi answers to digits -/

theorem parse10_digits : ∀ (l : List UInt8) (acc : Nat), l.all dig8 = true → acc < 18446744073709551616 →
    Lib.parseUint10 acc l = if l.foldl (fun n c => 10 * n + (c.toNat - 48)) acc < 18446744073709551616 then .ok (l.foldl (fun n c => 10 * n + (c.toNat - 48)) acc) else .range
  | [], acc, _, ha => by simp only [Lib.parseUint10, List.foldl_nil, ha, if_true]
  | c :: l, acc, hd, ha => by
    rw [List.all_cons, Bool.and_eq_true] at hd
    obtain ⟨hc, hl⟩ := hd
    unfold dig8 at hc
    rw [decide_eq_true_iff] at hc
    have hge := foldl_ge l (10 * acc + (c.toNat - 48))
    rw [Lib.parseUint10, if_pos hc, List.foldl_cons]
    by_cases h1 : 1844674407370955162 ≤ acc
    · rw [if_pos h1, if_neg (by omega)]
    · rw [if_neg h1]
      by_cases h2 : 18446744073709551616 ≤ acc * 10 + (c.toNat - 48)
      · rw [if_pos h2, if_neg (by omega)]
      · rw [if_neg h2, show acc * 10 + (c.toNat - 48) = 10 * acc + (c.toNat - 48) by omega, parse10_digits l _ hl (by omega)]

theorem parseMag_digits {d : List UInt8} (h : d ≠ []) (hd : d.all dig8 = true) : Lib.parseMag d = if val d < 18446744073709551616 then .ok (val d) else .range := by
  unfold Lib.parseMag
  rw [if_neg h]
  exact parse10_digits d 0 hd (by omega)

def fitsZ (v : Int) : Bool := decide (-9223372036854775808 ≤ v ∧ v ≤ 9223372036854775807)

theorem atoi_num {s : List UInt8} {v : Int} (h : numZ s = some v) : (fitsZ v = true → Lib.atoiAll s = .ok v) ∧ (fitsZ v = false → Lib.atoiAll s = .range) := by
  unfold numZ at h
  split at h
  · cases h
  · rename_i h1
    split at h
    · rename_i h2
      rw [Option.some.injEq] at h
      have hne : magS s ≠ [] := fun e => h1 (.inl e)
      have hp := parseMag_digits hne h2
      unfold fitsZ
      by_cases h45 : s.head? = some 45
      · obtain ⟨d, rfl⟩ : ∃ d, s = 45 :: d := by
          cases s with
          | nil => cases h45
          | cons a l => rw [List.head?_cons, Option.some.injEq] at h45; exact ⟨l, by rw [h45]⟩
        rw [if_pos h45] at h
        rw [magS_minus] at h hp
        rw [Lib.atoiAll_minus, hp]
        by_cases hv : val d < 18446744073709551616
        · rw [if_pos hv]
          unfold Lib.signed
          dsimp only
          constructor
          · intro hf
            rw [decide_eq_true_iff] at hf
            rw [if_neg (by omega), h]
          · intro hf
            rw [decide_eq_false_iff_not] at hf
            rw [if_pos (by omega)]
        · rw [if_neg hv]
          refine ⟨fun hf => ?_, fun _ => rfl⟩
          rw [decide_eq_true_iff] at hf
          omega
      · rw [if_neg h45] at h
        rw [magS_plain h45] at h hp hne h2
        cases s with
        | nil => exact absurd rfl hne
        | cons c r =>
          have hc : dig8 c = true := by rw [List.all_cons, Bool.and_eq_true] at h2; exact h2.1
          unfold dig8 at hc
          rw [decide_eq_true_iff] at hc
          rw [Lib.atoiAll_plain c r (by omega) (by omega), hp]
          by_cases hv : val (c :: r) < 18446744073709551616
          · rw [if_pos hv]
            unfold Lib.signless
            dsimp only
            constructor
            · intro hf
              rw [decide_eq_true_iff] at hf
              rw [if_neg (by omega), h]
            · intro hf
              rw [decide_eq_false_iff_not] at hf
              rw [if_pos (by omega)]
          · rw [if_neg hv]
            refine ⟨fun hf => ?_, fun _ => rfl⟩
            rw [decide_eq_true_iff] at hf
            omega
    · cases h

theorem numZ_bad {s : List UInt8} (h : magS s = [] ∨ ((magS s).head? = some 48 ∧ s ≠ [48])) : numZ s = none := if_pos h
theorem numZ_letter {s : List UInt8} (h : (magS s).all dig8 = false) : numZ s = none := by
  unfold numZ
  split
  · rfl
  · rw [if_neg (by rw [h]; decide)]
theorem numZ_good {s : List UInt8} (h : ¬ (magS s = [] ∨ ((magS s).head? = some 48 ∧ s ≠ [48]))) (hd : (magS s).all dig8 = true) : numZ s = some (if s.head? = some 45 then -(val (magS s) : Int) else val (magS s)) := by
  unfold numZ
  rw [if_neg h, if_pos hd]

/-! ### A sign -/

theorem Tryd.hasMinus (s : List UInt8) (hs : s.length ≤ 1000000) (H : AH) : Tryd.call 83 [.str s, .str [45]] H = some (.ok (.bool (s.head? == some 45)), H) := by
  refine ecall_flat 8 [] _ _ (out := [.bool (s.head? == some 45)]) rfl rfl rfl (views_flat rfl (views_flat rfl (views_nil H 8))) rfl ?_
  show W Tryd.call _ _ _ _ _
  cases s with
  | nil =>
    have d1 : decide ((([] : List UInt8).length : Int) ≥ (([45] : List UInt8).length : Int)) = false := by decide
    have e1 : ((none : Option UInt8) == some 45) = false := rfl
    simp only [Tryd.fn83, Tryd.fn83_r0, AmR, kp, exe, number, Arg.val, Env.at, lk, putd, ok1, Option.getD_some, if_true, if_false, reduceCtorEq, Nat.reduceEqDiff, Nat.reduceAdd, List.append_nil]
    simp only [Tryd.fn83_r1, AmR, kp, exe, Arg.val, Env.at, lk, putd, ok1, okM, abin, Option.getD_some, if_true, if_false, reduceCtorEq, Nat.reduceEqDiff, Nat.reduceAdd, decide_false, List.length_cons, List.length_nil, Int.cast_ofNat_Int, Int.reduceGE]
    simp only [Tryd.fn83_r2, List.head?_nil, e1, AmR, kp, exe, Arg.val, Env.at, lk, putd, ok1, Option.getD_some, if_true, if_false, Nat.reduceEqDiff, Bool.false_eq_true, resAll, resOf]
  | cons c r =>
    have d1 : decide (((c :: r).length : Int) ≥ (([45] : List UInt8).length : Int)) = true := decide_eq_true (by simp only [List.length_cons, List.length_nil]; omega)
    have b1 : bnds (c :: r).length (c :: r).length none (some (.int .i64 (([45] : List UInt8).length : Int))) = some (0, 1) := by
      have a1 : (0 : Int) ≤ (([45] : List UInt8).length : Int) ∧ (([45] : List UInt8).length : Int) ≤ ((c :: r).length : Int) := by simp only [List.length_cons, List.length_nil]; omega
      simp only [bnds, bnd, a1, and_self, if_true]
      rfl
    have e1 : (([c] : List UInt8) == [45]) = (some c == some 45) := by simp
    have e2 : List.take 1 (c :: r) = [c] := rfl
    have a2 : (0 : Int) ≤ (([45] : List UInt8).length : Int) := by decide
    simp only [Tryd.fn83, Tryd.fn83_r0, AmR, kp, exe, number, Arg.val, Env.at, lk, putd, ok1, Option.getD_some, if_true, if_false, reduceCtorEq, Nat.reduceEqDiff, Nat.reduceAdd, List.append_nil]
    rw [List.head?_cons, ← e1]
    generalize (c :: r) = l at d1 b1 e2 ⊢
    generalize ([45] : List UInt8) = m at d1 b1 ⊢
    simp only [Tryd.fn83_r1, d1, b1, e2, AmR, kp, exe, Arg.val, Env.at, lk, putd, ok1, okM, abin, Option.getD_some, if_true, if_false, reduceCtorEq, Nat.reduceEqDiff, Nat.reduceSub, List.drop_zero, Option.map_some, Option.map_none]
    simp only [Tryd.fn83_r2, AmR, kp, exe, Arg.val, Env.at, lk, putd, ok1, okM, abin, Option.getD_some, if_true, if_false, Nat.reduceEqDiff, resAll, resOf]

theorem Tryd.trimMinus1 (s : List UInt8) (hs : s.length ≤ 1000000) (H : AH) : Tryd.call 68 [.str s, .str [45]] H = some (.ok (.str (magS s)), H) := by
  refine ecall_flat 8 [] _ _ (out := [.str (magS s)]) rfl rfl rfl (views_flat rfl (views_flat rfl (views_nil H 8))) rfl ?_
  show W Tryd.call _ _ _ _ _
  have h1 := Tryd.hasMinus s hs
  by_cases h : s.head? = some 45
  · have e0 : (s.head? == some 45) = true := by rw [h]; rfl
    have e1 : magS s = s.drop 1 := by unfold magS; rw [if_pos h, List.drop_one]
    have hl : 1 ≤ s.length := by cases s with
      | nil => cases h
      | cons c r => rw [List.length_cons]; omega
    have b1 : bnds s.length s.length (some (.int .i64 (([45] : List UInt8).length : Int))) none = some (1, s.length) := by
      have a1 : (0 : Int) ≤ (([45] : List UInt8).length : Int) ∧ (([45] : List UInt8).length : Int) ≤ (s.length : Int) := by simp only [List.length_cons, List.length_nil]; omega
      simp only [bnds, bnd, a1, and_self, if_true]
      rfl
    have htk : (s.drop 1).take (s.length - 1) = s.drop 1 := List.take_of_length_le (by rw [List.length_drop]; omega)
    rw [e0] at h1
    rw [e1]
    generalize ([45] : List UInt8) = m at h1 b1 ⊢
    simp only [Tryd.fn68, Tryd.fn68_r0, AmR, kp, exe, number, Arg.val, Env.at, lk, putd, ok1, Option.getD_some, if_true, if_false, reduceCtorEq, Nat.reduceEqDiff, Nat.reduceAdd, List.append_nil]
    simp only [Tryd.fn68_r1, h1, AmR, kp, pushA, exe, Arg.val, Env.at, lk, putd, ok1, Option.getD_some, if_true, if_false, reduceCtorEq, Nat.reduceEqDiff, List.map_cons, List.map_nil]
    simp only [Tryd.fn68_r2, b1, htk, AmR, kp, exe, Arg.val, Env.at, lk, putd, ok1, Option.getD_some, if_true, if_false, reduceCtorEq, Nat.reduceEqDiff, resAll, resOf, Option.map_some, Option.map_none]
  · have e0 : (s.head? == some 45) = false := by rw [beq_eq_false_iff_ne]; exact h
    rw [e0] at h1
    rw [magS_plain h]
    simp only [Tryd.fn68, Tryd.fn68_r0, AmR, kp, exe, number, Arg.val, Env.at, lk, putd, ok1, Option.getD_some, if_true, if_false, reduceCtorEq, Nat.reduceEqDiff, Nat.reduceAdd, List.append_nil]
    simp only [Tryd.fn68_r1, h1, AmR, kp, pushA, exe, Arg.val, Env.at, lk, putd, ok1, Option.getD_some, if_true, if_false, reduceCtorEq, Nat.reduceEqDiff, List.map_cons, List.map_nil]
    simp only [Tryd.fn68_r3, AmR, kp, exe, Arg.val, Env.at, lk, putd, ok1, Option.getD_some, if_true, if_false, reduceCtorEq, Nat.reduceEqDiff, resAll, resOf]

theorem Tryd.trimMinus (s : List UInt8) (hs : s.length ≤ 1000000) (H : AH) : Tryd.call 56 [.str s, .str [45]] H = some (.ok (.str (magS s)), H) := by
  refine ecall_flat 8 [] _ _ (out := [.str (magS s)]) rfl rfl rfl (views_flat rfl (views_flat rfl (views_nil H 8))) rfl ?_
  show W Tryd.call _ _ _ _ _
  have h1 := Tryd.trimMinus1 s hs
  simp only [Tryd.fn56, Tryd.fn56_r0, AmR, kp, exe, number, Arg.val, Env.at, lk, putd, ok1, Option.getD_some, if_true, if_false, reduceCtorEq, Nat.reduceEqDiff, Nat.reduceAdd, List.append_nil]
  simp only [Tryd.fn56_r1, h1, AmR, kp, exe, Arg.val, Env.at, lk, putd, ok1, Option.getD_some, if_true, if_false, reduceCtorEq, Nat.reduceEqDiff, resAll, resOf, List.map_cons, List.map_nil]

/-! ### Numbers of the program -/

theorem Tryd.digLoop (d s : List UInt8) (hd : d.length ≤ 1000000) (H : AH) (K : AX → St → Prop) (ks : List Fr) (L : ACode) (hL : L = .loop (some [0, 5, 22, 23]) Tryd.fn39_l0)
    (hk : d.all dig8 = true → ∀ e, e.at 0 = .str s → Nx Tryd.call K ks e H) (hr : d.all dig8 = false → ∀ e, e.at 2 = .int .i64 0 → e.at 3 = .bool false → e.at 4 = .bool false → Rt Tryd.call K ks e H) : ∀ (n i : Nat), n + i = d.length → (d.take i).all dig8 = true →
    W Tryd.call K (.block 0 :: ks) [(0, .str s), (5, .str d), (22, .int .i64 d.length), (23, .int .i64 i)] H L := by
  intro n
  induction n with
  | zero =>
    intro i hi hdi
    refine W_loopN hL ?_
    have hi' : i = d.length := by omega
    subst hi'
    rw [List.take_length] at hdi
    simp only [Tryd.fn39_l0, Tryd.fn39_r6, AmR, kp, pushA, exe, Arg.val, Env.at, lk, putd, okM, abin, Option.getD_some, if_true, if_false, reduceCtorEq, Nat.reduceEqDiff]
    exact ⟨fun h => absurd h (by omega), fun _ => hk hdi _ rfl⟩
  | succ n ih =>
    intro i hi hdi
    refine W_loopN hL ?_
    obtain ⟨c, hc⟩ : ∃ c, d[i]? = some c := ⟨_, List.getElem?_eq_getElem (by omega)⟩
    have h0 : (0 : Int) ≤ (i : Int) := by omega
    have h1 : ((i : Int) < (d.length : Int)) = True := eq_true (by omega)
    have hw : IntKind.i64.wrap ((i : Int) + 1) = ((i + 1 : Nat) : Int) := by rw [IntWalk.i64_in _ (by omega)]; omega
    have hmem : c ∈ d := List.mem_of_getElem? hc
    have bad : dig8 c = false → d.all dig8 = false := fun hf => by
      rw [List.all_eq_false]
      exact ⟨c, hmem, by rw [hf]; decide⟩
    simp only [Tryd.fn39_l0, Tryd.fn39_r6, h1, AmR, kp, pushA, exe, Arg.val, Env.at, lk, putd, okM, abin, Option.getD_some, if_true, if_false, reduceCtorEq, Nat.reduceEqDiff, decide_true]
    by_cases hc1 : (c.toNat : Int) < 48
    · have d1 : decide ((c.toNat : Int) < 48) = true := decide_eq_true hc1
      have hf : dig8 c = false := decide_eq_false (by omega)
      simp only [Tryd.fn39_r7, Tryd.fn39_r8, Tryd.fn39_r9, h0, Int.toNat_natCast, hc, d1, AmR, kp, pushA, exe, Arg.val, Env.at, lk, putd, ok1, okM, abin, Option.getD_some, if_true, if_false, reduceCtorEq, Nat.reduceEqDiff, Option.map_some]
      exact hr (bad hf) _ rfl rfl rfl
    · have d1 : decide ((c.toNat : Int) < 48) = false := decide_eq_false hc1
      by_cases hc2 : (c.toNat : Int) > 57
      · have d2 : decide ((c.toNat : Int) > 57) = true := decide_eq_true hc2
        have hf : dig8 c = false := decide_eq_false (by omega)
        simp only [Tryd.fn39_r7, Tryd.fn39_r8, Tryd.fn39_r9, h0, Int.toNat_natCast, hc, d1, d2, AmR, kp, pushA, exe, Arg.val, Env.at, lk, putd, ok1, okM, abin, Option.getD_some, if_true, if_false, reduceCtorEq, Nat.reduceEqDiff, Bool.false_eq_true, Option.map_some]
        exact hr (bad hf) _ rfl rfl rfl
      · have d2 : decide ((c.toNat : Int) > 57) = false := decide_eq_false hc2
        have hf : dig8 c = true := decide_eq_true (by omega)
        have hd' : (d.take (i + 1)).all dig8 = true := by rw [List.take_add_one, hc, Option.toList_some, List.all_append, hdi]; simp [hf]
        simp only [Tryd.fn39_r7, Tryd.fn39_r8, h0, Int.toNat_natCast, hc, d1, d2, AmR, kp, pushA, exe, Arg.val, Env.at, lk, putd, ok1, okM, abin, Option.getD_some, if_true, if_false, reduceCtorEq, Nat.reduceEqDiff, Bool.false_eq_true, Option.map_some]
        simp only [Tryd.fn39_r10, hw, AmR, kp, exe, Arg.val, Env.at, lk, putd, ok1, okM, abin, Option.getD_some, if_true, if_false, reduceCtorEq, Nat.reduceEqDiff]
        exact ih (i + 1) (by omega) hd'

def NumZP (s : List UInt8) (H : AH) (vs : List AV) (H' : AH) : Prop := H' = H ∧ ∃ (n : Int) (is fits : Bool), vs = [.int .i64 n, .bool is, .bool fits] ∧ is = (numZ s).isSome ∧ ∀ v, numZ s = some v → fits = fitsZ v ∧ (fits = true → n = v)

theorem NumZP.bad {s : List UInt8} {H : AH} (hn : numZ s = none) (H1 : AH) : Back 8 H (NumZP s H) [.int .i64 0, .bool false, .bool false] H1 := by
  refine back_flat rfl ⟨rfl, 0, false, false, rfl, by rw [hn]; rfl, fun v hv => ?_⟩
  rw [hn] at hv; cases hv

theorem Tryd.num (s : List UInt8) (hs : s.length ≤ 1000000) (H : AH) : ∃ (n : Int) (is fits : Bool), Tryd.call 39 [.str s] H = some (.ok (.tup [.int .i64 n, .bool is, .bool fits]), H) ∧ is = (numZ s).isSome ∧ ∀ v, numZ s = some v → fits = fitsZ v ∧ (fits = true → n = v) := by
  suffices h : W Tryd.call (endK Tryd.fn39.res (Back 8 H (NumZP s H))) [] [(0, .str s)] ⟨[], 8, 8⟩ Tryd.fn39.code by
    obtain ⟨vs, H', ⟨rfl, n, is, fits, rfl, hr⟩, hc⟩ := ecall_vE 8 [] (lk Tryd.ext) (lk Tryd.tab) (f := 39) (fn := Tryd.fn39) (args := [.str s]) (H := H) rfl rfl rfl (views_flat rfl (views_nil H 8)) h
    exact ⟨n, is, fits, hc, hr⟩
  have ht := Tryd.trimMinus s hs
  have hml : (magS s).length ≤ 1000000 := by
    unfold magS
    split
    · rw [List.length_tail]; omega
    · exact hs
  have hat : ∀ H v, numZ s = some v → fitsZ v = true → Tryd.call 57 [.str s] H = some (.ok (.tup [.int .i64 v, .nili]), H) := fun H v hv hf => by
    refine ecall_ext 8 [] _ _ (g := gAtoi2 108) rfl _ H ?_
    simp only [gAtoi2, (atoi_num hv).1 hf]
    rw [if_pos (by omega)]; rfl
  have hat2 : ∀ H v, numZ s = some v → fitsZ v = false → Tryd.call 57 [.str s] H = some (.ok (.tup [.int .i64 (Lib.atoiSat s), .iface 108 .undef]), H) := fun H v hv hf => by
    refine ecall_ext 8 [] _ _ (g := gAtoi2 108) rfl _ H ?_
    simp only [gAtoi2, (atoi_num hv).2 hf]
    rw [if_pos (by omega)]; rfl
  by_cases hd0 : magS s = []
  · rw [hd0] at ht
    simp only [Tryd.fn39, Tryd.fn39_r0, AmR, kp, exe, Arg.val, Env.at, lk, putd, ok1, Option.getD_some, if_true, if_false, reduceCtorEq]
    simp only [Tryd.fn39_r1, ht, AmR, kp, exe, Arg.val, Env.at, lk, putd, ok1, Option.getD_some, if_true, if_false, reduceCtorEq, Nat.reduceEqDiff, List.map_cons, List.map_nil]
    simp only [Tryd.fn39_r2, Tryd.fn39_r3, Tryd.fn39_r4, beq_self_eq_true, AmR, kp, pushA, exe, Arg.val, Env.at, lk, putd, ok1, okM, abin, Option.getD_some, if_true, if_false, reduceCtorEq, Nat.reduceEqDiff, resAll, resOf, Option.some.injEq, exists_eq_left']
    exact NumZP.bad (numZ_bad (.inl hd0)) _
  · obtain ⟨c, hc⟩ : ∃ c, (magS s)[0]? = some c := ⟨_, List.getElem?_eq_getElem (List.length_pos_iff.2 hd0)⟩
    have hh : (magS s).head? = some c := by rw [List.head?_eq_getElem?]; exact hc
    have hb : (magS s == ([] : List UInt8)) = false := by rw [beq_eq_false_iff_ne]; exact hd0
    have h0 : (0 : Int) ≤ 0 := Int.le_refl 0
    have body : ¬ (magS s = [] ∨ ((magS s).head? = some 48 ∧ s ≠ [48])) → ∀ (ks : List Fr) (e : Env), ks = [.code (.trim [0, 5, 22, 23]), .code (.block 0
   (.loop (some [0, 5, 22, 23])
    Tryd.fn39_l0)), .code (.seq (.seq (.reg Tryd.fn39_r11)
  (.trim [2, 7]))
 (.seq (.seq (.regd Tryd.fn39_r12)
  (.trim [2, 3, 4]))
 .ret))] → e.at 0 = .str s → e.at 5 = .str (magS s) → Rg Tryd.call (endK [.tmp 2, .tmp 3, .tmp 4] (Back 8 H (NumZP s H))) ks e ⟨[], 8, 8⟩ Tryd.fn39_r5 := fun hgood ks e hks he0 he5 => by
      subst hks
      simp only [Env.at] at he0 he5
      simp only [Tryd.fn39_r5, he0, he5, AmR, kp, exe, Arg.val, Env.at, lk, putd, ok1, Option.getD_some, if_true, if_false, reduceCtorEq, Nat.reduceEqDiff]
      refine Tryd.digLoop (magS s) s hml _ _ _ _ rfl ?_ ?_ (magS s).length 0 (by omega) (by simp)
      · intro hd e he0
        have hn := numZ_good hgood hd
        simp only [Env.at] at he0
        generalize hv : (if s.head? = some 45 then -(val (magS s) : Int) else val (magS s)) = v at hn
        cases hf : fitsZ v with
        | true =>
          have ha := fun H => hat H v hn hf
          simp only [Tryd.fn39_r11, he0, ha, AmR, kp, exe, Arg.val, Env.at, lk, putd, ok1, okM, Option.getD_some, if_true, if_false, List.getElem?_cons_zero, List.getElem?_cons_succ, Nat.reduceEqDiff, List.map_cons, List.map_nil]
          refine W_drawn' (by kernel_rfl) ?_
          simp only [Tryd.fn39_r12, AmR, kp, exe, Arg.val, Env.at, lk, putd, ok1, okM, Option.getD_some, if_true, if_false, Bool.not_false, Nat.reduceEqDiff, Nat.reduceAdd, resAll, resOf, Option.some.injEq, true_and, List.append_nil, visH, List.flatMap_nil, Option.map_some, exists_eq_left', aeqv, aeq, Bool.true_bne]
          refine back_flat rfl ⟨rfl, v, true, true, rfl, by rw [hn]; rfl, fun v' h => ?_⟩
          rw [hn, Option.some.injEq] at h
          subst h
          exact ⟨hf.symm, fun _ => rfl⟩
        | false =>
          have ha := fun H => hat2 H v hn hf
          simp only [Tryd.fn39_r11, he0, ha, AmR, kp, exe, Arg.val, Env.at, lk, putd, ok1, okM, Option.getD_some, if_true, if_false, List.getElem?_cons_zero, List.getElem?_cons_succ, Nat.reduceEqDiff, List.map_cons, List.map_nil]
          refine W_drawn' (by kernel_rfl) ?_
          simp only [Tryd.fn39_r12, AmR, kp, exe, Arg.val, Env.at, lk, putd, ok1, okM, Option.getD_some, if_true, if_false, Nat.reduceEqDiff, Nat.reduceAdd, resAll, resOf, Option.some.injEq, true_and, List.append_nil, visH, List.flatMap_nil, Option.map_some, exists_eq_left', aeqv, aeq, bne_self_eq_false]
          refine back_flat rfl ⟨rfl, Lib.atoiSat s, true, false, rfl, by rw [hn]; rfl, fun v' h => ?_⟩
          rw [hn, Option.some.injEq] at h
          subst h
          exact ⟨hf.symm, fun h => by cases h⟩
      · intro hd e h2 h3 h4
        simp only [Rt_code, Rt_nil]
        rw [endK_ret]
        exact ⟨_, by simp only [resAll, resOf, h2, h3, h4], NumZP.bad (numZ_letter hd) _⟩
    by_cases h48 : c = 48
    · have e48 : ((c.toNat : Int) == 48) = true := by rw [h48]; rfl
      simp only [Tryd.fn39, Tryd.fn39_r0, AmR, kp, exe, Arg.val, Env.at, lk, putd, ok1, Option.getD_some, if_true, if_false, reduceCtorEq]
      simp only [Tryd.fn39_r1, ht, AmR, kp, exe, Arg.val, Env.at, lk, putd, ok1, Option.getD_some, if_true, if_false, reduceCtorEq, Nat.reduceEqDiff, List.map_cons, List.map_nil]
      simp only [Tryd.fn39_r2, Tryd.fn39_r3, Tryd.fn39_r4, hb, h0, Int.toNat_zero, hc, e48, AmR, Cd_nbeq, kp, pushA, exe, Arg.val, Env.at, lk, putd, ok1, okM, abin, Option.getD_some, if_true, if_false, reduceCtorEq, Nat.reduceEqDiff, Bool.false_eq_true, resAll, resOf, Option.some.injEq, Option.map_some, exists_eq_left']
      refine ⟨fun hs48 => body (by rintro (h | ⟨_, h⟩); exact hd0 h; exact h hs48) _ _ rfl rfl rfl, fun hs48 => NumZP.bad (numZ_bad (.inr ⟨by rw [hh, h48], hs48⟩)) _⟩
    · have e48 : ((c.toNat : Int) == 48) = false := by
        rw [beq_eq_false_iff_ne]
        intro h
        exact h48 (UInt8.toNat_inj.1 (by show c.toNat = 48; omega))
      simp only [Tryd.fn39, Tryd.fn39_r0, AmR, kp, exe, Arg.val, Env.at, lk, putd, ok1, Option.getD_some, if_true, if_false, reduceCtorEq]
      simp only [Tryd.fn39_r1, ht, AmR, kp, exe, Arg.val, Env.at, lk, putd, ok1, Option.getD_some, if_true, if_false, reduceCtorEq, Nat.reduceEqDiff, List.map_cons, List.map_nil]
      simp only [Tryd.fn39_r2, Tryd.fn39_r3, hb, h0, Int.toNat_zero, hc, e48, AmR, kp, pushA, exe, Arg.val, Env.at, lk, putd, ok1, okM, abin, Option.getD_some, if_true, if_false, reduceCtorEq, Nat.reduceEqDiff, Bool.false_eq_true, Option.map_some]
      exact body (by rintro (h | ⟨h, _⟩); exact hd0 h; rw [hh] at h; exact h48 (Option.some.inj h)) _ _ rfl rfl rfl

end Go.Am
