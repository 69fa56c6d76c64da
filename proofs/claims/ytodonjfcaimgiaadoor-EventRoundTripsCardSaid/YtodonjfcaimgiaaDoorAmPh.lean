/-
Parse of the program. Conditions: those that each theorem names.
-/
import Derived.Test.YtodonjfcaimgiaaDoorAmPg
set_option linter.unusedSimpArgs false
set_option linter.unusedVariables false
namespace Go.Am

theorem cutN_succ (k : Nat) (s : List UInt8) : cutN (k + 1) s = match wordO s with
    | none => [s]
    | some (w, r) => w :: cutN k r := rfl
theorem cutN_cons {k : Nat} {s w : List UInt8} {l : List (List UInt8)} (h : cutN (k + 1) s = w :: l) (hl : l ≠ []) : ∃ r, wordO s = some (w, r) ∧ cutN k r = l := by
  rw [cutN_succ] at h
  cases hw : wordO s with
  | none => rw [hw] at h; simp only [List.cons.injEq] at h; exact absurd h.2.symm hl
  | some p =>
    obtain ⟨w', r⟩ := p
    rw [hw] at h
    simp only [List.cons.injEq] at h
    exact ⟨r, by rw [h.1], h.2⟩

theorem readL_seven {s w0 w1 w2 w3 w4 w5 w6 : List UInt8} (h : cutN 6 s = [w0, w1, w2, w3, w4, w5, w6]) : readL s = (idx w0 kindNames 0).bind fun k => (numZ w1).bind fun a => (numZ w2).bind fun b => (numZ w3).bind fun c => (numZ w4).bind fun e => (numZ w5).bind fun f => (unqL w6).map fun d => ⟨(k : Int) + 1, a, b, c, e, d, f⟩ := by
  obtain ⟨r0, h0, h⟩ := cutN_cons h (by simp)
  obtain ⟨r1, h1, h⟩ := cutN_cons h (by simp)
  obtain ⟨r2, h2, h⟩ := cutN_cons h (by simp)
  obtain ⟨r3, h3, h⟩ := cutN_cons h (by simp)
  obtain ⟨r4, h4, h⟩ := cutN_cons h (by simp)
  obtain ⟨r5, h5, h⟩ := cutN_cons h (by simp)
  have h6 : r5 = w6 := by
    simp only [cutN, List.cons.injEq, and_true] at h; exact h
  subst h6
  unfold readL
  rw [h0, Option.bind_some]
  dsimp only
  congr 1
  funext k
  simp only [numsL, h1, h2, h3, h4, h5, Option.bind_some]
  cases numZ w1 with
  | none => rfl
  | some a =>
    cases numZ w2 with
    | none => rfl
    | some b =>
      cases numZ w3 with
      | none => rfl
      | some c =>
        cases numZ w4 with
        | none => rfl
        | some e =>
          cases numZ w5 with
          | none => rfl
          | some f =>
            simp only [Option.bind_some, Option.map_some]
            cases unqL r5 <;> rfl

theorem numsL_cut : ∀ {k : Nat} {s : List UInt8} {p : List Int × List UInt8}, numsL k s = some p → (cutN k s).length = k + 1
  | 0, s, p, h => rfl
  | k + 1, s, p, h => by
    unfold numsL at h
    obtain ⟨q, hq, h⟩ := Option.bind_eq_some_iff.1 h
    obtain ⟨z, hz, h⟩ := Option.bind_eq_some_iff.1 h
    obtain ⟨p', hp', h⟩ := Option.map_eq_some_iff.1 h
    obtain ⟨w, r⟩ := q
    rw [cutN_succ, hq]
    have := numsL_cut hp'
    dsimp only at this ⊢
    rw [List.length_cons, this]

theorem readL_not {s : List UInt8} (h : (cutN 6 s).length ≠ 7) : readL s = none := by
  cases hr : readL s with
  | none => rfl
  | some x =>
    unfold readL at hr
    obtain ⟨p, hp, hr⟩ := Option.bind_eq_some_iff.1 hr
    obtain ⟨k, hk, hr⟩ := Option.bind_eq_some_iff.1 hr
    obtain ⟨q, hq, hr⟩ := Option.bind_eq_some_iff.1 hr
    obtain ⟨w, r⟩ := p
    have := numsL_cut hq
    refine absurd ?_ h
    rw [cutN_succ, hp]
    dsimp only at this ⊢
    rw [List.length_cons, this]

theorem cutN_len : ∀ (k : Nat) (s : List UInt8), ∀ w ∈ cutN k s, w.length ≤ s.length
  | 0, s, w, hw => by
    simp only [cutN, List.mem_singleton] at hw; rw [hw]; exact Nat.le_refl _
  | k + 1, s, w, hw => by
    rw [cutN_succ] at hw
    cases h : wordO s with
    | none => rw [h] at hw; simp only [List.mem_singleton] at hw; rw [hw]; exact Nat.le_refl _
    | some p =>
      obtain ⟨v, r⟩ := p
      rw [h] at hw
      have := wordO_len h
      rcases List.mem_cons.1 hw with rfl | hw
      · omega
      · have := cutN_len k r w hw; omega

def evNil : Ev := ⟨0, 0, 0, 0, 0, [], 0⟩
/-- What Parse gives. -/
noncomputable def parseR (s : List UInt8) : List AV := match readL s with
  | none => [evNil.av, .int .i64 4]
  | some x => if x.ok = true then [x.av, .int .i64 0] else [evNil.av, .int .i64 2]

theorem parseR_none {s : List UInt8} (h : readL s = none) : parseR s = [evNil.av, .int .i64 4] := by unfold parseR; rw [h]
theorem parseR_some {s : List UInt8} {x : Ev} (h : readL s = some x) : parseR s = if x.ok = true then [x.av, .int .i64 0] else [evNil.av, .int .i64 2] := by unfold parseR; rw [h]

theorem Tryd.splitN (s : List UInt8) (hs : s.length ≤ 1000000) (H : AH) : Tryd.call 36 [.str s, .str [32], .int .i64 7] H = some (.ok (.sl H.next 0 1 (cutN 6 s).length (some (min 7 (s.length + 1)))), H.push 9 false (splitCells s [32] 7)) := by
  refine ecall_ext 8 [] _ _ (g := gSplitN2 9) rfl _ H ?_
  have h := cutN_le 6 s
  simp only [gSplitN2, Int.reduceToNat, splitN_cut]
  rw [if_pos ⟨by omega, by decide, by decide, by decide, by omega⟩]

theorem splitCells_seven {s w0 w1 w2 w3 w4 w5 w6 : List UInt8} (h : cutN 6 s = [w0, w1, w2, w3, w4, w5, w6]) : splitCells s [32] 7 = [.str w0, .str w1, .str w2, .str w3, .str w4, .str w5, .str w6] := by
  unfold splitCells
  rw [splitN_cut, h]
  rw [show min 7 (s.length + 1) - [w0, w1, w2, w3, w4, w5, w6].length = 0 by simp only [List.length_cons, List.length_nil]; omega]
  simp

theorem Tryd.unqU (w : List UInt8) (hw : w.length ≤ 1000000) : ∃ (r : List UInt8) (e : Int), (∀ H, Tryd.call 38 [.str w] H = some (.ok (.tup [.str r, .int .i64 e]), H)) ∧ r.length ≤ w.length ∧ ∀ d, w = quoteL d → r = d ∧ e = 0 := by
  obtain ⟨r, e, h1, h2⟩ := Tryd.unq w hw ⟨[], 8, 8⟩
  exact ⟨r, e, ecall_any (fn := Tryd.fn38) rfl rfl rfl (fun H => views_flat rfl (views_nil H 8)) h1, h2⟩
theorem Tryd.numU (w : List UInt8) (hw : w.length ≤ 1000000) : ∃ (n : Int) (is fits : Bool), (∀ H, Tryd.call 39 [.str w] H = some (.ok (.tup [.int .i64 n, .bool is, .bool fits]), H)) ∧ is = (numZ w).isSome ∧ ∀ v, numZ w = some v → fits = fitsZ v ∧ (fits = true → n = v) := by
  obtain ⟨n, is, fits, h1, h2⟩ := Tryd.num w hw ⟨[], 8, 8⟩
  exact ⟨n, is, fits, ecall_any (fn := Tryd.fn39) rfl rfl rfl (fun H => views_flat rfl (views_nil H 8)) h1, h2⟩

theorem Tryd.parse (s : List UInt8) (hs : s.length ≤ 100000) (H : AH) : Tryd.call 24 [.str s] H = some (.ok (pack (parseR s)), H) := by
  refine ecall_flat 8 [] _ _ (out := parseR s) rfl rfl rfl (views_flat rfl (views_nil H 8)) (by unfold parseR; split <;> (try split) <;> rfl) ?_
  show W Tryd.call _ _ _ _ _
  have hsp := Tryd.splitN s (by omega)
  simp only [Tryd.fn24, Tryd.fn24_r0, AmR, kp, exe, number, Arg.val, Env.at, lk, putd, ok1, AH.push, Option.getD_some, if_true, if_false, reduceCtorEq, Nat.reduceEqDiff, Nat.reduceAdd, List.append_nil]
  simp only [Tryd.fn24_r1, hsp, AmR, kp, exe, Arg.val, Env.at, lk, putd, ok1, AH.push, Option.getD_some, if_true, if_false, reduceCtorEq, Nat.reduceEqDiff, Nat.reduceAdd, List.map_cons, List.map_nil]
  by_cases h7 : (cutN 6 s).length = 7
  case neg =>
    rw [parseR_none (readL_not h7)]
    simp only [Tryd.fn24_r2, AmR, Cd_bne, kp, pushA, exe, Arg.val, Env.at, lk, putd, ok1, okM, abin, Option.getD_some, if_true, if_false, Nat.reduceEqDiff, Option.map_some, ↓exe_lenl, lenS_sl]
    refine ⟨fun h => absurd h (by omega), fun _ => ?_⟩
    simp only [Tryd.fn24_r3, evNil, Ev.av, Ev.cells, AmR, kp, exe, Arg.val, Env.at, lk, putd, AV.cells?, ok1, okM, AH.get, Option.getD_some, if_true, if_false, Nat.reduceEqDiff, Nat.reduceAdd, Nat.reduceLT, Bool.false_eq_true, resAll, resOf, and_true, Nat.reduceLeDiff, List.map_nil, AH.cellsAt, AH.store, AH.put, rpl, putAt, solid, List.all_cons, List.all_nil, Bool.and_self, List.length_cons, List.length_nil, List.drop_zero, List.take_succ_cons, List.take_zero, Option.map_some, afill, List.set_cons_zero, List.set_cons_succ]
  obtain ⟨w0, w1, w2, w3, w4, w5, w6, hc⟩ : ∃ w0 w1 w2 w3 w4 w5 w6, cutN 6 s = [w0, w1, w2, w3, w4, w5, w6] := by
    generalize cutN 6 s = l at h7
    match l, h7 with
    | [w0, w1, w2, w3, w4, w5, w6], _ => exact ⟨w0, w1, w2, w3, w4, w5, w6, rfl⟩
  have hread := readL_seven hc
  have hwl := cutN_len 6 s
  have hcap : min 7 (s.length + 1) = 7 := by have := (cutN_le 6 s).2.2; omega
  have hlen6 : w6.length ≤ s.length := hwl w6 (by rw [hc]; simp)
  rw [splitCells_seven hc, hcap, h7]
  have hk := Tryd.kinds
  have hix : ∀ H : AH, H.get 10 = some kindBlk → Tryd.call 37 [.sl 10 0 1 8 (some 8), .str w0] H = some (.ok (.int .i64 (idxZ (idx w0 kindNames 0))), H) := fun H h => Tryd.index w0 kindNames (by decide) H 10 kindBlk (some 8) h rfl
  obtain ⟨r, e, hu, hrl, hrd⟩ := Tryd.unqU w6 (by omega)
  have hqt := Tryd.quote r (by omega)
  have fin4 : readL s = none → parseR s = [.agg [.int .i64 0, .int .i64 0, .int .i64 0, .int .i64 0, .int .i64 0, .str [], .int .i64 0], .int .i64 4] := parseR_none
  simp only [Tryd.fn24_r2, AmR, kp, pushA, exe, Arg.val, Env.at, lk, putd, ok1, okM, abin, Option.getD_some, if_true, if_false, Nat.reduceEqDiff, Option.map_some, bne_self_eq_false, Int.cast_ofNat_Int, ↓exe_lenl, lenS_sl]
  refine W_drawn' (by kernel_rfl) ?_
  simp only [Tryd.fn24_r4, hk, hix, AmR, kp, exe, Arg.val, Env.at, lk, putd, ok1, okM, AH.get, abin, Option.getD_some, if_true, if_false, List.getElem?_cons_zero, Nat.reduceEqDiff, Nat.reduceAdd, Nat.reduceMul, Bool.false_eq_true, and_true, true_and, List.nil_append, List.append_nil, visH, List.filter_cons, List.filter_nil, List.flatMap_nil, List.flatMap_cons, List.contains_cons, List.contains_nil, Nat.reduceBEq, Bool.or_false, Nat.reduceLeDiff, List.map_cons, List.map_nil, List.cons_append, Int.reduceLT, Int.reduceLE, Int.reduceToNat, AH.take1, Int.cast_ofNat_Int]
  simp only [Tryd.fn24_r5, hu, AmR, kp, exe, Arg.val, Env.at, lk, putd, ok1, okM, AH.get, Option.getD_some, if_true, if_false, List.getElem?_cons_zero, List.getElem?_cons_succ, Nat.reduceEqDiff, Nat.reduceAdd, Nat.reduceMul, and_true, List.map_cons, List.map_nil, Int.reduceLT, Int.reduceLE, Int.reduceToNat, Int.cast_ofNat_Int]
  refine W_drawn' (by kernel_rfl) ?_
  cases hi : idx w0 kindNames 0 with
  | none =>
    have hz : IntKind.i64.wrap (idxZ none + 1) = 0 := by decide
    rw [fin4 (by rw [hread, hi]; rfl)]
    simp only [Tryd.fn24_r6, Tryd.fn24_r6a, Tryd.fn24_r6b, Tryd.fn24_r7, hz, beq_self_eq_true, AmR, kp, pushA, exe, Arg.val, Env.at, lk, putd, AV.cells?, ok1, okM, AH.get, abin, Option.getD_some, if_true, if_false, Nat.reduceEqDiff, Nat.reduceAdd, Nat.reduceLT, Bool.false_eq_true, resAll, resOf, and_true, List.nil_append, visH, List.flatMap_nil, Nat.reduceLeDiff, List.map_nil, AH.cellsAt, AH.store, AH.put, rpl, putAt, solid, List.all_cons, List.all_nil, Bool.and_self, List.length_cons, List.length_nil, List.drop_zero, List.take_succ_cons, List.take_zero, Option.map_some, afill, List.set_cons_zero, List.set_cons_succ]
  | some k =>
    have hk8 := (idx_kind hi).1
    have hz : IntKind.i64.wrap (idxZ (some k) + 1) = (k : Int) + 1 := IntWalk.i64_in _ (by unfold idxZ; dsimp only; omega)
    have hk0 : ((k : Int) + 1 == 0) = false := by rw [beq_eq_false_iff_ne]; omega
    have hq1 : ∀ d, w6 = quoteL d → r = d := fun d h => (hrd d h).1
    have fq : (∀ d, w6 ≠ quoteL d) → readL s = none := fun h => by
      have hn : unqL w6 = none := by
        cases hu : unqL w6 with
        | none => rfl
        | some d => exact absurd (unqL_some hu) (h d)
      rw [hread, hn]
      cases idx w0 kindNames 0 <;> cases numZ w1 <;> cases numZ w2 <;> cases numZ w3 <;> cases numZ w4 <;> cases numZ w5 <;> rfl
    by_cases he : e = 0
    case neg =>
      have e1 : (e != 0) = true := by rw [bne_iff_ne]; exact he
      rw [fin4 (fq fun d h => he (hrd d h).2)]
      simp only [Tryd.fn24_r6, Tryd.fn24_r6a, Tryd.fn24_r6b, Tryd.fn24_r7, hz, hk0, e1, AmR, kp, pushA, exe, Arg.val, Env.at, lk, putd, AV.cells?, ok1, okM, AH.get, abin, Option.getD_some, if_true, if_false, Nat.reduceEqDiff, Nat.reduceAdd, Nat.reduceLT, Bool.false_eq_true, resAll, resOf, and_true, List.nil_append, visH, List.flatMap_nil, Nat.reduceLeDiff, List.map_nil, AH.cellsAt, AH.store, AH.put, rpl, putAt, solid, List.all_cons, List.all_nil, Bool.and_self, List.length_cons, List.length_nil, List.drop_zero, List.take_succ_cons, List.take_zero, Option.map_some, afill, List.set_cons_zero, List.set_cons_succ]
    have e1 : (e != 0) = false := by rw [he]; rfl
    simp only [Tryd.fn24_r6, Tryd.fn24_r6a, Tryd.fn24_r6b, hz, hk0, e1, hqt, AmR, Cd_nbeq, kp, pushA, exe, Arg.val, Env.at, lk, putd, ok1, okM, AH.get, abin, Option.getD_some, if_true, if_false, List.getElem?_cons_zero, List.getElem?_cons_succ, Nat.reduceEqDiff, Nat.reduceAdd, Nat.reduceMul, Bool.false_eq_true, and_true, true_and, List.nil_append, visH, List.filter_nil, List.flatMap_nil, List.contains_cons, List.contains_nil, Bool.or_false, Nat.reduceLeDiff, List.map_cons, List.map_nil, Int.reduceLT, Int.reduceLE, Int.reduceToNat, Int.cast_ofNat_Int]
    refine ⟨fun h6 => ?_, fun h6 => ?_⟩
    case _ =>
      have hu6 : unqL w6 = some r := by
        cases hu : unqL w6 with
        | none => exact absurd h6.symm (unqL_none hu r)
        | some d => rw [hq1 d (unqL_some hu)]
      rw [hi, hu6] at hread
      simp only [Option.bind_some, Option.map_some] at hread
      obtain ⟨n1, i1, f1, hn1, hs1, hv1⟩ := Tryd.numU w1 (by have := hwl w1 (by rw [hc]; simp); omega)
      obtain ⟨n2, i2, f2, hn2, hs2, hv2⟩ := Tryd.numU w2 (by have := hwl w2 (by rw [hc]; simp); omega)
      obtain ⟨n3, i3, f3, hn3, hs3, hv3⟩ := Tryd.numU w3 (by have := hwl w3 (by rw [hc]; simp); omega)
      obtain ⟨n4, i4, f4, hn4, hs4, hv4⟩ := Tryd.numU w4 (by have := hwl w4 (by rw [hc]; simp); omega)
      obtain ⟨n5, i5, f5, hn5, hs5, hv5⟩ := Tryd.numU w5 (by have := hwl w5 (by rw [hc]; simp); omega)
      obtain ⟨L, hL⟩ : ∃ L, L = ACode.loop (some [2, 4, 5, 6, 8, 9, 49]) Tryd.fn24_l0 := ⟨_, rfl⟩
      have fnum : ∀ w, w = w1 ∨ w = w2 ∨ w = w3 ∨ w = w4 ∨ w = w5 → (numZ w).isSome = false → readL s = none := fun w hw hn => by
        have hn' : numZ w = none := by cases h : numZ w with
          | none => rfl
          | some v => rw [h] at hn; cases hn
        rw [hread]
        rcases hw with rfl | rfl | rfl | rfl | rfl <;> rw [hn'] <;> (try cases numZ w1) <;> (try cases numZ w2) <;> (try cases numZ w3) <;> (try cases numZ w4) <;> rfl
      have q1 : IntKind.i64.wrap (1 : Int) = 1 := by decide
      have q2 : IntKind.i64.wrap (2 : Int) = 2 := by decide
      have q3 : IntKind.i64.wrap (3 : Int) = 3 := by decide
      have q4 : IntKind.i64.wrap (4 : Int) = 4 := by decide
      have q5 : IntKind.i64.wrap (5 : Int) = 5 := by decide
      have L5 : ∀ sm : Bool, sm = (f1 && f2 && f3 && f4 && f5) → i1 = true ∧ i2 = true ∧ i3 = true ∧ i4 = true ∧ i5 = true → W Tryd.call (flatK [.celln 2 7, .tmp 3] (parseR s)) (.block 0 :: [.code (.seq (.seq (.seq (.reg Tryd.fn24_r20)
   (.trim [2, 6, 8, 73, 75, 77, 79, 81, 82]))
  (.seq (.reg Tryd.fn24_r21)
  (.trim [2, 8, 14])))
 (.seq (.seq (.seq (.reg Tryd.fn24_r22)
   (.trim [2, 14, 92]))
  (.cond (.t 92)
   (.seq (.seq (.reg Tryd.fn24_r23)
    (.trim [2, 3]))
   .ret)
   .skip))
 (.seq (.seq (.reg Tryd.fn24_r24)
  (.trim [2, 3]))
 .ret)))]) [(2, .ptr 8 0), (4, .sl 9 0 1 7 (some 7)), (5, .int .i64 ((k : Int) + 1)), (6, .str r), (8, .bool sm), (9, .ptr 11 0), (49, .int .i64 5)] ⟨[(11, ⟨[.int .i64 n1, .int .i64 n2, .int .i64 n3, .int .i64 n4, .int .i64 n5], false, 56, true, true⟩), (10, kindBlk), (9, ⟨[.str w0, .str w1, .str w2, .str w3, .str w4, .str w5, .str w6], false, 9, false, true⟩), (8, ⟨[.int .i64 0, .int .i64 0, .int .i64 0, .int .i64 0, .int .i64 0, .str [], .int .i64 0], false, 23, true, true⟩)], 12, 8⟩ L := by
        rintro sm hsm ⟨e1, e2, e3, e4, e5⟩
        rw [e1] at hs1; rw [e2] at hs2; rw [e3] at hs3; rw [e4] at hs4; rw [e5] at hs5
        obtain ⟨v1, z1⟩ := Option.isSome_iff_exists.1 hs1.symm
        obtain ⟨v2, z2⟩ := Option.isSome_iff_exists.1 hs2.symm
        obtain ⟨v3, z3⟩ := Option.isSome_iff_exists.1 hs3.symm
        obtain ⟨v4, z4⟩ := Option.isSome_iff_exists.1 hs4.symm
        obtain ⟨v5, z5⟩ := Option.isSome_iff_exists.1 hs5.symm
        rw [z1, z2, z3, z4, z5] at hread
        simp only [Option.bind_some] at hread
        obtain ⟨g1, m1⟩ := hv1 v1 z1
        obtain ⟨g2, m2⟩ := hv2 v2 z2
        obtain ⟨g3, m3⟩ := hv3 v3 z3
        obtain ⟨g4, m4⟩ := hv4 v4 z4
        obtain ⟨g5, m5⟩ := hv5 v5 z5
        rw [parseR_some hread]
        have hval := Tryd.valid ⟨(k : Int) + 1, n1, n2, n3, n4, r, n5⟩
        refine W_loopN hL ?_
        simp only [Tryd.fn24_l0, Tryd.fn24_r11, AmR, kp, pushA, exe, Arg.val, Env.at, lk, putd, okM, abin, Option.getD_some, if_true, if_false, Nat.reduceEqDiff, decide_false, Int.reduceLT]
        generalize hB : Ev.ok ⟨(k : Int) + 1, n1, n2, n3, n4, r, n5⟩ = B at hval
        simp only [Ev.av, Ev.cells] at hval
        simp only [Tryd.fn24_r20, AmR, kp, exe, Arg.val, Env.at, lk, putd, ok1, okM, AH.get, Option.getD_some, if_true, if_false, List.getElem?_cons_zero, List.getElem?_cons_succ, Nat.reduceEqDiff, Nat.reduceAdd, Nat.reduceMul, and_true, Int.reduceLT, Int.reduceLE, Int.reduceToNat, Int.cast_ofNat_Int]
        simp only [Tryd.fn24_r21, AmR, kp, exe, Arg.val, Env.at, lk, putd, AV.cells?, ok1, okM, AH.push, AH.get, Option.getD_some, if_true, if_false, List.getElem?_cons_zero, List.getElem?_cons_succ, Nat.reduceEqDiff, Nat.reduceAdd, Nat.reduceLT, Bool.false_eq_true, and_true, Nat.reduceLeDiff, List.map_cons, List.map_nil, AH.store, AH.put, rpl, putAt, solid, List.all_cons, List.all_nil, Bool.and_self, List.length_cons, List.length_nil, Option.map_some, afill, List.set_cons_zero, List.set_cons_succ]
        cases sm with
        | false =>
          rw [if_neg (fun h => by
            rw [Ev.ok_iff] at h
            dsimp only at h
            have y1 : fitsZ v1 = true := decide_eq_true (by omega)
            have y2 : fitsZ v2 = true := decide_eq_true (by omega)
            have y3 : fitsZ v3 = true := decide_eq_true (by omega)
            have y4 : fitsZ v4 = true := decide_eq_true (by omega)
            have y5 : fitsZ v5 = true := decide_eq_true (by omega)
            rw [g1, g2, g3, g4, g5, y1, y2, y3, y4, y5] at hsm
            cases hsm)]
          simp only [Tryd.fn24_r22, Tryd.fn24_r23, evNil, Ev.av, Ev.cells, AmR, kp, pushA, exe, Arg.val, Env.at, lk, putd, AV.cells?, ok1, okM, AH.get, Option.getD_some, if_true, if_false, Bool.not_false, Nat.reduceEqDiff, Nat.reduceAdd, Nat.reduceLT, Bool.false_eq_true, resAll, resOf, and_true, Nat.reduceLeDiff, aun, List.map_nil, AH.cellsAt, AH.store, AH.put, rpl, putAt, solid, List.all_cons, List.all_nil, Bool.and_self, List.length_cons, List.length_nil, List.drop_zero, List.take_succ_cons, List.take_zero, Option.map_some, afill, List.set_cons_zero, List.set_cons_succ]
        | true =>
          have hsm' := hsm.symm
          simp only [Bool.and_eq_true] at hsm'
          obtain ⟨⟨⟨⟨x1, x2⟩, x3⟩, x4⟩, x5⟩ := hsm'
          rw [← m1 x1, ← m2 x2, ← m3 x3, ← m4 x4, ← m5 x5, hB]
          cases B with
          | false =>
            rw [if_neg (by decide)]
            simp only [Tryd.fn24_r22, hval, Tryd.fn24_r23, evNil, Ev.av, Ev.cells, AmR, kp, pushA, exe, Arg.val, Env.at, lk, putd, AV.cells?, ok1, okM, AH.get, Option.getD_some, if_true, if_false, Bool.not_true, Bool.not_false, Nat.reduceEqDiff, Nat.reduceAdd, Nat.reduceLT, Bool.false_eq_true, resAll, resOf, and_true, Nat.reduceLeDiff, aun, List.map_cons, List.map_nil, AH.cellsAt, AH.store, AH.put, rpl, putAt, solid, List.all_cons, List.all_nil, Bool.and_self, List.length_cons, List.length_nil, List.drop_zero, List.take_succ_cons, List.take_zero, Option.map_some, afill, List.set_cons_zero, List.set_cons_succ]
          | true =>
            rw [if_pos rfl]
            simp only [Tryd.fn24_r22, hval, Tryd.fn24_r24, Ev.av, Ev.cells, AmR, kp, pushA, exe, Arg.val, Env.at, lk, putd, AV.cells?, ok1, okM, AH.get, Option.getD_some, if_true, if_false, Bool.not_true, Nat.reduceEqDiff, Nat.reduceAdd, Nat.reduceLT, Bool.false_eq_true, resAll, resOf, and_true, Nat.reduceLeDiff, aun, List.map_cons, List.map_nil, AH.cellsAt, AH.store, AH.put, rpl, putAt, solid, List.all_cons, List.all_nil, Bool.and_self, List.length_cons, List.length_nil, List.drop_zero, List.take_succ_cons, List.take_zero, Option.map_some, List.set_cons_zero, List.set_cons_succ]
      have L4 : ∀ sm : Bool, sm = (f1 && f2 && f3 && f4) → i1 = true ∧ i2 = true ∧ i3 = true ∧ i4 = true → W Tryd.call (flatK [.celln 2 7, .tmp 3] (parseR s)) (.block 0 :: [.code (.seq (.seq (.seq (.reg Tryd.fn24_r20)
   (.trim [2, 6, 8, 73, 75, 77, 79, 81, 82]))
  (.seq (.reg Tryd.fn24_r21)
  (.trim [2, 8, 14])))
 (.seq (.seq (.seq (.reg Tryd.fn24_r22)
   (.trim [2, 14, 92]))
  (.cond (.t 92)
   (.seq (.seq (.reg Tryd.fn24_r23)
    (.trim [2, 3]))
   .ret)
   .skip))
 (.seq (.seq (.reg Tryd.fn24_r24)
  (.trim [2, 3]))
 .ret)))]) [(2, .ptr 8 0), (4, .sl 9 0 1 7 (some 7)), (5, .int .i64 ((k : Int) + 1)), (6, .str r), (8, .bool sm), (9, .ptr 11 0), (49, .int .i64 4)] ⟨[(11, ⟨[.int .i64 n1, .int .i64 n2, .int .i64 n3, .int .i64 n4, .int .i64 0], false, 56, true, true⟩), (10, kindBlk), (9, ⟨[.str w0, .str w1, .str w2, .str w3, .str w4, .str w5, .str w6], false, 9, false, true⟩), (8, ⟨[.int .i64 0, .int .i64 0, .int .i64 0, .int .i64 0, .int .i64 0, .str [], .int .i64 0], false, 23, true, true⟩)], 12, 8⟩ L := by
        intro sm hsm hall
        refine W_loopN hL ?_
        simp only [Tryd.fn24_l0, Tryd.fn24_r11, AmR, kp, pushA, exe, Arg.val, Env.at, lk, putd, okM, abin, Option.getD_some, if_true, if_false, Nat.reduceEqDiff, decide_true, Int.reduceLT]
        simp only [Tryd.fn24_r12, AmR, kp, exe, Arg.val, Env.at, lk, putd, ok1, Option.getD_some, if_true, if_false, Nat.reduceEqDiff]
        simp only [Tryd.fn24_r13, q5, hn5, AmR, kp, exe, Arg.val, Env.at, lk, putd, ok1, okM, AH.get, abin, Option.getD_some, if_true, if_false, List.getElem?_cons_zero, List.getElem?_cons_succ, Nat.reduceEqDiff, Nat.reduceAdd, Nat.reduceMul, and_true, List.map_cons, List.map_nil, Int.reduceLT, Int.reduceLE, Int.reduceAdd, Int.reduceToNat, Int.cast_ofNat_Int]
        simp only [Tryd.fn24_r14, AmR, kp, exe, Arg.val, Env.at, lk, putd, ok1, Option.getD_some, if_true, if_false, Nat.reduceEqDiff]
        cases hb : i5 with
        | false =>
          rw [fin4 (fnum w5 (by simp) (by rw [← hs5, hb]))]
          simp only [Tryd.fn24_r15, Tryd.fn24_r16, AmR, kp, pushA, exe, Arg.val, Env.at, lk, putd, AV.cells?, ok1, okM, AH.get, Option.getD_some, if_true, if_false, Bool.not_false, Nat.reduceEqDiff, Nat.reduceAdd, Nat.reduceLT, Bool.false_eq_true, resAll, resOf, and_true, Nat.reduceLeDiff, aun, List.map_nil, AH.cellsAt, AH.store, AH.put, rpl, putAt, solid, List.all_cons, List.all_nil, Bool.and_self, List.length_cons, List.length_nil, List.drop_zero, List.take_succ_cons, List.take_zero, Option.map_some, afill, List.set_cons_zero, List.set_cons_succ]
        | true =>
          have nx := L5 (sm && f5) (by rw [hsm]) (by simp only [hall, hb, and_self])
          clear hsm
          cases sm with
          | false =>
            simp only [Bool.false_and] at nx
            simp only [Tryd.fn24_r15, AmR, kp, pushA, exe, Arg.val, Env.at, lk, putd, ok1, okM, Option.getD_some, if_true, if_false, Bool.not_true, Nat.reduceEqDiff, aun]
            simp only [Tryd.fn24_r17, AmR, kp, exe, Arg.val, Env.at, lk, putd, AV.cells?, ok1, AH.get, Option.getD_some, if_true, if_false, Nat.reduceEqDiff, Nat.reduceAdd, Nat.reduceMul, Nat.reduceLT, Bool.false_eq_true, and_true, Nat.reduceLeDiff, AH.store, AH.put, rpl, putAt, solid, List.all_cons, List.all_nil, Bool.and_self, List.length_cons, List.length_nil, Option.map_some, Int.reduceLT, Int.reduceLE, Int.reduceToNat, List.set_cons_zero, List.set_cons_succ, Int.cast_ofNat_Int]
            simp only [Tryd.fn24_r18, AmR, kp, exe, Arg.val, Env.at, lk, putd, ok1, Option.getD_some, if_true, if_false, Nat.reduceEqDiff, Bool.false_eq_true]
            simp only [Tryd.fn24_r19, q5, AmR, kp, exe, Arg.val, Env.at, lk, putd, ok1, okM, abin, Option.getD_some, if_true, if_false, Nat.reduceEqDiff, Int.reduceAdd]
            exact nx
          | true =>
            simp only [Bool.true_and] at nx
            simp only [Tryd.fn24_r15, AmR, kp, pushA, exe, Arg.val, Env.at, lk, putd, ok1, okM, Option.getD_some, if_true, if_false, Bool.not_true, Nat.reduceEqDiff, aun]
            simp only [Tryd.fn24_r17, AmR, kp, exe, Arg.val, Env.at, lk, putd, AV.cells?, ok1, AH.get, Option.getD_some, if_true, if_false, Nat.reduceEqDiff, Nat.reduceAdd, Nat.reduceMul, Nat.reduceLT, Bool.false_eq_true, and_true, Nat.reduceLeDiff, AH.store, AH.put, rpl, putAt, solid, List.all_cons, List.all_nil, Bool.and_self, List.length_cons, List.length_nil, Option.map_some, Int.reduceLT, Int.reduceLE, Int.reduceToNat, List.set_cons_zero, List.set_cons_succ, Int.cast_ofNat_Int]
            simp only [Tryd.fn24_r18, AmR, kp, exe, Arg.val, Env.at, lk, putd, ok1, Option.getD_some, if_true, if_false, Nat.reduceEqDiff]
            simp only [Tryd.fn24_r19, q5, AmR, kp, exe, Arg.val, Env.at, lk, putd, ok1, okM, abin, Option.getD_some, if_true, if_false, Nat.reduceEqDiff, Int.reduceAdd]
            exact nx
      have L3 : ∀ sm : Bool, sm = (f1 && f2 && f3) → i1 = true ∧ i2 = true ∧ i3 = true → W Tryd.call (flatK [.celln 2 7, .tmp 3] (parseR s)) (.block 0 :: [.code (.seq (.seq (.seq (.reg Tryd.fn24_r20)
   (.trim [2, 6, 8, 73, 75, 77, 79, 81, 82]))
  (.seq (.reg Tryd.fn24_r21)
  (.trim [2, 8, 14])))
 (.seq (.seq (.seq (.reg Tryd.fn24_r22)
   (.trim [2, 14, 92]))
  (.cond (.t 92)
   (.seq (.seq (.reg Tryd.fn24_r23)
    (.trim [2, 3]))
   .ret)
   .skip))
 (.seq (.seq (.reg Tryd.fn24_r24)
  (.trim [2, 3]))
 .ret)))]) [(2, .ptr 8 0), (4, .sl 9 0 1 7 (some 7)), (5, .int .i64 ((k : Int) + 1)), (6, .str r), (8, .bool sm), (9, .ptr 11 0), (49, .int .i64 3)] ⟨[(11, ⟨[.int .i64 n1, .int .i64 n2, .int .i64 n3, .int .i64 0, .int .i64 0], false, 56, true, true⟩), (10, kindBlk), (9, ⟨[.str w0, .str w1, .str w2, .str w3, .str w4, .str w5, .str w6], false, 9, false, true⟩), (8, ⟨[.int .i64 0, .int .i64 0, .int .i64 0, .int .i64 0, .int .i64 0, .str [], .int .i64 0], false, 23, true, true⟩)], 12, 8⟩ L := by
        intro sm hsm hall
        refine W_loopN hL ?_
        simp only [Tryd.fn24_l0, Tryd.fn24_r11, AmR, kp, pushA, exe, Arg.val, Env.at, lk, putd, okM, abin, Option.getD_some, if_true, if_false, Nat.reduceEqDiff, decide_true, Int.reduceLT]
        simp only [Tryd.fn24_r12, AmR, kp, exe, Arg.val, Env.at, lk, putd, ok1, Option.getD_some, if_true, if_false, Nat.reduceEqDiff]
        simp only [Tryd.fn24_r13, q4, hn4, AmR, kp, exe, Arg.val, Env.at, lk, putd, ok1, okM, AH.get, abin, Option.getD_some, if_true, if_false, List.getElem?_cons_zero, List.getElem?_cons_succ, Nat.reduceEqDiff, Nat.reduceAdd, Nat.reduceMul, and_true, List.map_cons, List.map_nil, Int.reduceLT, Int.reduceLE, Int.reduceAdd, Int.reduceToNat, Int.cast_ofNat_Int]
        simp only [Tryd.fn24_r14, AmR, kp, exe, Arg.val, Env.at, lk, putd, ok1, Option.getD_some, if_true, if_false, Nat.reduceEqDiff]
        cases hb : i4 with
        | false =>
          rw [fin4 (fnum w4 (by simp) (by rw [← hs4, hb]))]
          simp only [Tryd.fn24_r15, Tryd.fn24_r16, AmR, kp, pushA, exe, Arg.val, Env.at, lk, putd, AV.cells?, ok1, okM, AH.get, Option.getD_some, if_true, if_false, Bool.not_false, Nat.reduceEqDiff, Nat.reduceAdd, Nat.reduceLT, Bool.false_eq_true, resAll, resOf, and_true, Nat.reduceLeDiff, aun, List.map_nil, AH.cellsAt, AH.store, AH.put, rpl, putAt, solid, List.all_cons, List.all_nil, Bool.and_self, List.length_cons, List.length_nil, List.drop_zero, List.take_succ_cons, List.take_zero, Option.map_some, afill, List.set_cons_zero, List.set_cons_succ]
        | true =>
          have nx := L4 (sm && f4) (by rw [hsm]) (by simp only [hall, hb, and_self])
          clear hsm
          cases sm with
          | false =>
            simp only [Bool.false_and] at nx
            simp only [Tryd.fn24_r15, AmR, kp, pushA, exe, Arg.val, Env.at, lk, putd, ok1, okM, Option.getD_some, if_true, if_false, Bool.not_true, Nat.reduceEqDiff, aun]
            simp only [Tryd.fn24_r17, AmR, kp, exe, Arg.val, Env.at, lk, putd, AV.cells?, ok1, AH.get, Option.getD_some, if_true, if_false, Nat.reduceEqDiff, Nat.reduceAdd, Nat.reduceMul, Nat.reduceLT, Bool.false_eq_true, and_true, Nat.reduceLeDiff, AH.store, AH.put, rpl, putAt, solid, List.all_cons, List.all_nil, Bool.and_self, List.length_cons, List.length_nil, Option.map_some, Int.reduceLT, Int.reduceLE, Int.reduceToNat, List.set_cons_zero, List.set_cons_succ, Int.cast_ofNat_Int]
            simp only [Tryd.fn24_r18, AmR, kp, exe, Arg.val, Env.at, lk, putd, ok1, Option.getD_some, if_true, if_false, Nat.reduceEqDiff, Bool.false_eq_true]
            simp only [Tryd.fn24_r19, q4, AmR, kp, exe, Arg.val, Env.at, lk, putd, ok1, okM, abin, Option.getD_some, if_true, if_false, Nat.reduceEqDiff, Int.reduceAdd]
            exact nx
          | true =>
            simp only [Bool.true_and] at nx
            simp only [Tryd.fn24_r15, AmR, kp, pushA, exe, Arg.val, Env.at, lk, putd, ok1, okM, Option.getD_some, if_true, if_false, Bool.not_true, Nat.reduceEqDiff, aun]
            simp only [Tryd.fn24_r17, AmR, kp, exe, Arg.val, Env.at, lk, putd, AV.cells?, ok1, AH.get, Option.getD_some, if_true, if_false, Nat.reduceEqDiff, Nat.reduceAdd, Nat.reduceMul, Nat.reduceLT, Bool.false_eq_true, and_true, Nat.reduceLeDiff, AH.store, AH.put, rpl, putAt, solid, List.all_cons, List.all_nil, Bool.and_self, List.length_cons, List.length_nil, Option.map_some, Int.reduceLT, Int.reduceLE, Int.reduceToNat, List.set_cons_zero, List.set_cons_succ, Int.cast_ofNat_Int]
            simp only [Tryd.fn24_r18, AmR, kp, exe, Arg.val, Env.at, lk, putd, ok1, Option.getD_some, if_true, if_false, Nat.reduceEqDiff]
            simp only [Tryd.fn24_r19, q4, AmR, kp, exe, Arg.val, Env.at, lk, putd, ok1, okM, abin, Option.getD_some, if_true, if_false, Nat.reduceEqDiff, Int.reduceAdd]
            exact nx
      have L2 : ∀ sm : Bool, sm = (f1 && f2) → i1 = true ∧ i2 = true → W Tryd.call (flatK [.celln 2 7, .tmp 3] (parseR s)) (.block 0 :: [.code (.seq (.seq (.seq (.reg Tryd.fn24_r20)
   (.trim [2, 6, 8, 73, 75, 77, 79, 81, 82]))
  (.seq (.reg Tryd.fn24_r21)
  (.trim [2, 8, 14])))
 (.seq (.seq (.seq (.reg Tryd.fn24_r22)
   (.trim [2, 14, 92]))
  (.cond (.t 92)
   (.seq (.seq (.reg Tryd.fn24_r23)
    (.trim [2, 3]))
   .ret)
   .skip))
 (.seq (.seq (.reg Tryd.fn24_r24)
  (.trim [2, 3]))
 .ret)))]) [(2, .ptr 8 0), (4, .sl 9 0 1 7 (some 7)), (5, .int .i64 ((k : Int) + 1)), (6, .str r), (8, .bool sm), (9, .ptr 11 0), (49, .int .i64 2)] ⟨[(11, ⟨[.int .i64 n1, .int .i64 n2, .int .i64 0, .int .i64 0, .int .i64 0], false, 56, true, true⟩), (10, kindBlk), (9, ⟨[.str w0, .str w1, .str w2, .str w3, .str w4, .str w5, .str w6], false, 9, false, true⟩), (8, ⟨[.int .i64 0, .int .i64 0, .int .i64 0, .int .i64 0, .int .i64 0, .str [], .int .i64 0], false, 23, true, true⟩)], 12, 8⟩ L := by
        intro sm hsm hall
        refine W_loopN hL ?_
        simp only [Tryd.fn24_l0, Tryd.fn24_r11, AmR, kp, pushA, exe, Arg.val, Env.at, lk, putd, okM, abin, Option.getD_some, if_true, if_false, Nat.reduceEqDiff, decide_true, Int.reduceLT]
        simp only [Tryd.fn24_r12, AmR, kp, exe, Arg.val, Env.at, lk, putd, ok1, Option.getD_some, if_true, if_false, Nat.reduceEqDiff]
        simp only [Tryd.fn24_r13, q3, hn3, AmR, kp, exe, Arg.val, Env.at, lk, putd, ok1, okM, AH.get, abin, Option.getD_some, if_true, if_false, List.getElem?_cons_zero, List.getElem?_cons_succ, Nat.reduceEqDiff, Nat.reduceAdd, Nat.reduceMul, and_true, List.map_cons, List.map_nil, Int.reduceLT, Int.reduceLE, Int.reduceAdd, Int.reduceToNat, Int.cast_ofNat_Int]
        simp only [Tryd.fn24_r14, AmR, kp, exe, Arg.val, Env.at, lk, putd, ok1, Option.getD_some, if_true, if_false, Nat.reduceEqDiff]
        cases hb : i3 with
        | false =>
          rw [fin4 (fnum w3 (by simp) (by rw [← hs3, hb]))]
          simp only [Tryd.fn24_r15, Tryd.fn24_r16, AmR, kp, pushA, exe, Arg.val, Env.at, lk, putd, AV.cells?, ok1, okM, AH.get, Option.getD_some, if_true, if_false, Bool.not_false, Nat.reduceEqDiff, Nat.reduceAdd, Nat.reduceLT, Bool.false_eq_true, resAll, resOf, and_true, Nat.reduceLeDiff, aun, List.map_nil, AH.cellsAt, AH.store, AH.put, rpl, putAt, solid, List.all_cons, List.all_nil, Bool.and_self, List.length_cons, List.length_nil, List.drop_zero, List.take_succ_cons, List.take_zero, Option.map_some, afill, List.set_cons_zero, List.set_cons_succ]
        | true =>
          have nx := L3 (sm && f3) (by rw [hsm]) (by simp only [hall, hb, and_self])
          clear hsm
          cases sm with
          | false =>
            simp only [Bool.false_and] at nx
            simp only [Tryd.fn24_r15, AmR, kp, pushA, exe, Arg.val, Env.at, lk, putd, ok1, okM, Option.getD_some, if_true, if_false, Bool.not_true, Nat.reduceEqDiff, aun]
            simp only [Tryd.fn24_r17, AmR, kp, exe, Arg.val, Env.at, lk, putd, AV.cells?, ok1, AH.get, Option.getD_some, if_true, if_false, Nat.reduceEqDiff, Nat.reduceAdd, Nat.reduceMul, Nat.reduceLT, Bool.false_eq_true, and_true, Nat.reduceLeDiff, AH.store, AH.put, rpl, putAt, solid, List.all_cons, List.all_nil, Bool.and_self, List.length_cons, List.length_nil, Option.map_some, Int.reduceLT, Int.reduceLE, Int.reduceToNat, List.set_cons_zero, List.set_cons_succ, Int.cast_ofNat_Int]
            simp only [Tryd.fn24_r18, AmR, kp, exe, Arg.val, Env.at, lk, putd, ok1, Option.getD_some, if_true, if_false, Nat.reduceEqDiff, Bool.false_eq_true]
            simp only [Tryd.fn24_r19, q3, AmR, kp, exe, Arg.val, Env.at, lk, putd, ok1, okM, abin, Option.getD_some, if_true, if_false, Nat.reduceEqDiff, Int.reduceAdd]
            exact nx
          | true =>
            simp only [Bool.true_and] at nx
            simp only [Tryd.fn24_r15, AmR, kp, pushA, exe, Arg.val, Env.at, lk, putd, ok1, okM, Option.getD_some, if_true, if_false, Bool.not_true, Nat.reduceEqDiff, aun]
            simp only [Tryd.fn24_r17, AmR, kp, exe, Arg.val, Env.at, lk, putd, AV.cells?, ok1, AH.get, Option.getD_some, if_true, if_false, Nat.reduceEqDiff, Nat.reduceAdd, Nat.reduceMul, Nat.reduceLT, Bool.false_eq_true, and_true, Nat.reduceLeDiff, AH.store, AH.put, rpl, putAt, solid, List.all_cons, List.all_nil, Bool.and_self, List.length_cons, List.length_nil, Option.map_some, Int.reduceLT, Int.reduceLE, Int.reduceToNat, List.set_cons_zero, List.set_cons_succ, Int.cast_ofNat_Int]
            simp only [Tryd.fn24_r18, AmR, kp, exe, Arg.val, Env.at, lk, putd, ok1, Option.getD_some, if_true, if_false, Nat.reduceEqDiff]
            simp only [Tryd.fn24_r19, q3, AmR, kp, exe, Arg.val, Env.at, lk, putd, ok1, okM, abin, Option.getD_some, if_true, if_false, Nat.reduceEqDiff, Int.reduceAdd]
            exact nx
      have L1 : ∀ sm : Bool, sm = (f1) → i1 = true → W Tryd.call (flatK [.celln 2 7, .tmp 3] (parseR s)) (.block 0 :: [.code (.seq (.seq (.seq (.reg Tryd.fn24_r20)
   (.trim [2, 6, 8, 73, 75, 77, 79, 81, 82]))
  (.seq (.reg Tryd.fn24_r21)
  (.trim [2, 8, 14])))
 (.seq (.seq (.seq (.reg Tryd.fn24_r22)
   (.trim [2, 14, 92]))
  (.cond (.t 92)
   (.seq (.seq (.reg Tryd.fn24_r23)
    (.trim [2, 3]))
   .ret)
   .skip))
 (.seq (.seq (.reg Tryd.fn24_r24)
  (.trim [2, 3]))
 .ret)))]) [(2, .ptr 8 0), (4, .sl 9 0 1 7 (some 7)), (5, .int .i64 ((k : Int) + 1)), (6, .str r), (8, .bool sm), (9, .ptr 11 0), (49, .int .i64 1)] ⟨[(11, ⟨[.int .i64 n1, .int .i64 0, .int .i64 0, .int .i64 0, .int .i64 0], false, 56, true, true⟩), (10, kindBlk), (9, ⟨[.str w0, .str w1, .str w2, .str w3, .str w4, .str w5, .str w6], false, 9, false, true⟩), (8, ⟨[.int .i64 0, .int .i64 0, .int .i64 0, .int .i64 0, .int .i64 0, .str [], .int .i64 0], false, 23, true, true⟩)], 12, 8⟩ L := by
        intro sm hsm hall
        refine W_loopN hL ?_
        simp only [Tryd.fn24_l0, Tryd.fn24_r11, AmR, kp, pushA, exe, Arg.val, Env.at, lk, putd, okM, abin, Option.getD_some, if_true, if_false, Nat.reduceEqDiff, decide_true, Int.reduceLT]
        simp only [Tryd.fn24_r12, AmR, kp, exe, Arg.val, Env.at, lk, putd, ok1, Option.getD_some, if_true, if_false, Nat.reduceEqDiff]
        simp only [Tryd.fn24_r13, q2, hn2, AmR, kp, exe, Arg.val, Env.at, lk, putd, ok1, okM, AH.get, abin, Option.getD_some, if_true, if_false, List.getElem?_cons_zero, List.getElem?_cons_succ, Nat.reduceEqDiff, Nat.reduceAdd, Nat.reduceMul, and_true, List.map_cons, List.map_nil, Int.reduceLT, Int.reduceLE, Int.reduceAdd, Int.reduceToNat, Int.cast_ofNat_Int]
        simp only [Tryd.fn24_r14, AmR, kp, exe, Arg.val, Env.at, lk, putd, ok1, Option.getD_some, if_true, if_false, Nat.reduceEqDiff]
        cases hb : i2 with
        | false =>
          rw [fin4 (fnum w2 (by simp) (by rw [← hs2, hb]))]
          simp only [Tryd.fn24_r15, Tryd.fn24_r16, AmR, kp, pushA, exe, Arg.val, Env.at, lk, putd, AV.cells?, ok1, okM, AH.get, Option.getD_some, if_true, if_false, Bool.not_false, Nat.reduceEqDiff, Nat.reduceAdd, Nat.reduceLT, Bool.false_eq_true, resAll, resOf, and_true, Nat.reduceLeDiff, aun, List.map_nil, AH.cellsAt, AH.store, AH.put, rpl, putAt, solid, List.all_cons, List.all_nil, Bool.and_self, List.length_cons, List.length_nil, List.drop_zero, List.take_succ_cons, List.take_zero, Option.map_some, afill, List.set_cons_zero, List.set_cons_succ]
        | true =>
          have nx := L2 (sm && f2) (by rw [hsm]) (by simp only [hall, hb, and_self])
          clear hsm
          cases sm with
          | false =>
            simp only [Bool.false_and] at nx
            simp only [Tryd.fn24_r15, AmR, kp, pushA, exe, Arg.val, Env.at, lk, putd, ok1, okM, Option.getD_some, if_true, if_false, Bool.not_true, Nat.reduceEqDiff, aun]
            simp only [Tryd.fn24_r17, AmR, kp, exe, Arg.val, Env.at, lk, putd, AV.cells?, ok1, AH.get, Option.getD_some, if_true, if_false, Nat.reduceEqDiff, Nat.reduceAdd, Nat.reduceMul, Nat.reduceLT, Bool.false_eq_true, and_true, Nat.reduceLeDiff, AH.store, AH.put, rpl, putAt, solid, List.all_cons, List.all_nil, Bool.and_self, List.length_cons, List.length_nil, Option.map_some, Int.reduceLT, Int.reduceLE, Int.reduceToNat, List.set_cons_zero, List.set_cons_succ, Int.cast_ofNat_Int]
            simp only [Tryd.fn24_r18, AmR, kp, exe, Arg.val, Env.at, lk, putd, ok1, Option.getD_some, if_true, if_false, Nat.reduceEqDiff, Bool.false_eq_true]
            simp only [Tryd.fn24_r19, q2, AmR, kp, exe, Arg.val, Env.at, lk, putd, ok1, okM, abin, Option.getD_some, if_true, if_false, Nat.reduceEqDiff, Int.reduceAdd]
            exact nx
          | true =>
            simp only [Bool.true_and] at nx
            simp only [Tryd.fn24_r15, AmR, kp, pushA, exe, Arg.val, Env.at, lk, putd, ok1, okM, Option.getD_some, if_true, if_false, Bool.not_true, Nat.reduceEqDiff, aun]
            simp only [Tryd.fn24_r17, AmR, kp, exe, Arg.val, Env.at, lk, putd, AV.cells?, ok1, AH.get, Option.getD_some, if_true, if_false, Nat.reduceEqDiff, Nat.reduceAdd, Nat.reduceMul, Nat.reduceLT, Bool.false_eq_true, and_true, Nat.reduceLeDiff, AH.store, AH.put, rpl, putAt, solid, List.all_cons, List.all_nil, Bool.and_self, List.length_cons, List.length_nil, Option.map_some, Int.reduceLT, Int.reduceLE, Int.reduceToNat, List.set_cons_zero, List.set_cons_succ, Int.cast_ofNat_Int]
            simp only [Tryd.fn24_r18, AmR, kp, exe, Arg.val, Env.at, lk, putd, ok1, Option.getD_some, if_true, if_false, Nat.reduceEqDiff]
            simp only [Tryd.fn24_r19, q2, AmR, kp, exe, Arg.val, Env.at, lk, putd, ok1, okM, abin, Option.getD_some, if_true, if_false, Nat.reduceEqDiff, Int.reduceAdd]
            exact nx
      have L0 : ∀ sm : Bool, sm = (true) → True → W Tryd.call (flatK [.celln 2 7, .tmp 3] (parseR s)) (.block 0 :: [.code (.seq (.seq (.seq (.reg Tryd.fn24_r20)
   (.trim [2, 6, 8, 73, 75, 77, 79, 81, 82]))
  (.seq (.reg Tryd.fn24_r21)
  (.trim [2, 8, 14])))
 (.seq (.seq (.seq (.reg Tryd.fn24_r22)
   (.trim [2, 14, 92]))
  (.cond (.t 92)
   (.seq (.seq (.reg Tryd.fn24_r23)
    (.trim [2, 3]))
   .ret)
   .skip))
 (.seq (.seq (.reg Tryd.fn24_r24)
  (.trim [2, 3]))
 .ret)))]) [(2, .ptr 8 0), (4, .sl 9 0 1 7 (some 7)), (5, .int .i64 ((k : Int) + 1)), (6, .str r), (8, .bool sm), (9, .ptr 11 0), (49, .int .i64 0)] ⟨[(11, ⟨[.int .i64 0, .int .i64 0, .int .i64 0, .int .i64 0, .int .i64 0], false, 56, true, true⟩), (10, kindBlk), (9, ⟨[.str w0, .str w1, .str w2, .str w3, .str w4, .str w5, .str w6], false, 9, false, true⟩), (8, ⟨[.int .i64 0, .int .i64 0, .int .i64 0, .int .i64 0, .int .i64 0, .str [], .int .i64 0], false, 23, true, true⟩)], 12, 8⟩ L := by
        intro sm hsm hall
        refine W_loopN hL ?_
        simp only [Tryd.fn24_l0, Tryd.fn24_r11, AmR, kp, pushA, exe, Arg.val, Env.at, lk, putd, okM, abin, Option.getD_some, if_true, if_false, Nat.reduceEqDiff, decide_true, Int.reduceLT]
        simp only [Tryd.fn24_r12, AmR, kp, exe, Arg.val, Env.at, lk, putd, ok1, Option.getD_some, if_true, if_false, Nat.reduceEqDiff]
        simp only [Tryd.fn24_r13, q1, hn1, AmR, kp, exe, Arg.val, Env.at, lk, putd, ok1, okM, AH.get, abin, Option.getD_some, if_true, if_false, List.getElem?_cons_zero, List.getElem?_cons_succ, Nat.reduceEqDiff, Nat.reduceAdd, Nat.reduceMul, and_true, List.map_cons, List.map_nil, Int.reduceLT, Int.reduceLE, Int.reduceAdd, Int.reduceToNat, Int.cast_ofNat_Int]
        simp only [Tryd.fn24_r14, AmR, kp, exe, Arg.val, Env.at, lk, putd, ok1, Option.getD_some, if_true, if_false, Nat.reduceEqDiff]
        cases hb : i1 with
        | false =>
          rw [fin4 (fnum w1 (by simp) (by rw [← hs1, hb]))]
          simp only [Tryd.fn24_r15, Tryd.fn24_r16, AmR, kp, pushA, exe, Arg.val, Env.at, lk, putd, AV.cells?, ok1, okM, AH.get, Option.getD_some, if_true, if_false, Bool.not_false, Nat.reduceEqDiff, Nat.reduceAdd, Nat.reduceLT, Bool.false_eq_true, resAll, resOf, and_true, Nat.reduceLeDiff, aun, List.map_nil, AH.cellsAt, AH.store, AH.put, rpl, putAt, solid, List.all_cons, List.all_nil, Bool.and_self, List.length_cons, List.length_nil, List.drop_zero, List.take_succ_cons, List.take_zero, Option.map_some, afill, List.set_cons_zero, List.set_cons_succ]
        | true =>
          have nx := L1 (sm && f1) (by rw [hsm]; rfl) (by exact hb)
          clear hsm
          cases sm with
          | false =>
            simp only [Bool.false_and] at nx
            simp only [Tryd.fn24_r15, AmR, kp, pushA, exe, Arg.val, Env.at, lk, putd, ok1, okM, Option.getD_some, if_true, if_false, Bool.not_true, Nat.reduceEqDiff, aun]
            simp only [Tryd.fn24_r17, AmR, kp, exe, Arg.val, Env.at, lk, putd, AV.cells?, ok1, AH.get, Option.getD_some, if_true, if_false, Nat.reduceEqDiff, Nat.reduceAdd, Nat.reduceMul, Nat.reduceLT, Bool.false_eq_true, and_true, Nat.reduceLeDiff, AH.store, AH.put, rpl, putAt, solid, List.all_cons, List.all_nil, Bool.and_self, List.length_cons, List.length_nil, Option.map_some, Int.reduceLT, Int.reduceLE, Int.reduceToNat, List.set_cons_zero, Int.cast_ofNat_Int]
            simp only [Tryd.fn24_r18, AmR, kp, exe, Arg.val, Env.at, lk, putd, ok1, Option.getD_some, if_true, if_false, Nat.reduceEqDiff, Bool.false_eq_true]
            simp only [Tryd.fn24_r19, q1, AmR, kp, exe, Arg.val, Env.at, lk, putd, ok1, okM, abin, Option.getD_some, if_true, if_false, Nat.reduceEqDiff, Int.reduceAdd]
            exact nx
          | true =>
            simp only [Bool.true_and] at nx
            simp only [Tryd.fn24_r15, AmR, kp, pushA, exe, Arg.val, Env.at, lk, putd, ok1, okM, Option.getD_some, if_true, if_false, Bool.not_true, Nat.reduceEqDiff, aun]
            simp only [Tryd.fn24_r17, AmR, kp, exe, Arg.val, Env.at, lk, putd, AV.cells?, ok1, AH.get, Option.getD_some, if_true, if_false, Nat.reduceEqDiff, Nat.reduceAdd, Nat.reduceMul, Nat.reduceLT, Bool.false_eq_true, and_true, Nat.reduceLeDiff, AH.store, AH.put, rpl, putAt, solid, List.all_cons, List.all_nil, Bool.and_self, List.length_cons, List.length_nil, Option.map_some, Int.reduceLT, Int.reduceLE, Int.reduceToNat, List.set_cons_zero, Int.cast_ofNat_Int]
            simp only [Tryd.fn24_r18, AmR, kp, exe, Arg.val, Env.at, lk, putd, ok1, Option.getD_some, if_true, if_false, Nat.reduceEqDiff]
            simp only [Tryd.fn24_r19, q1, AmR, kp, exe, Arg.val, Env.at, lk, putd, ok1, okM, abin, Option.getD_some, if_true, if_false, Nat.reduceEqDiff, Int.reduceAdd]
            exact nx
      simp only [Tryd.fn24_r8, AmR, kp, exe, Arg.val, Env.at, lk, putd, ok1, Option.getD_some, if_true, if_false, Nat.reduceEqDiff]
      simp only [Tryd.fn24_r9, AmR, kp, exe, Env.at, lk, putd, ok1, AH.push, Option.getD_some, if_true, if_false, Nat.reduceEqDiff, Nat.reduceAdd]
      simp only [Tryd.fn24_r10, AmR, kp, exe, Arg.val, Env.at, lk, putd, ok1, Option.getD_some, if_true, if_false, Nat.reduceEqDiff]
      rw [← hL]
      exact L0 true rfl trivial
    case _ =>
      rw [fin4 (fq fun d h => h6 (by rw [h, hq1 d h]))]
      simp only [Tryd.fn24_r7, AmR, kp, exe, Arg.val, Env.at, lk, putd, AV.cells?, ok1, okM, AH.get, Option.getD_some, if_true, if_false, Nat.reduceEqDiff, Nat.reduceAdd, Nat.reduceLT, Bool.false_eq_true, resAll, resOf, and_true, Nat.reduceLeDiff, List.map_nil, AH.cellsAt, AH.store, AH.put, rpl, putAt, solid, List.all_cons, List.all_nil, Bool.and_self, List.length_cons, List.length_nil, List.drop_zero, List.take_succ_cons, List.take_zero, Option.map_some, afill, List.set_cons_zero, List.set_cons_succ]

end Go.Am
