/-
A project's text and its sections: each is restored from the other. Conditions: none.
-/
import Derived.Test.YthknkijoiloinaaDoorAmS
set_option linter.unusedSimpArgs false
set_option linter.unusedVariables false
namespace Go.Am

/-! ### The first of a byte -/

theorem first_of (c : UInt8) : ∀ s : List UInt8, c ∉ s ∨ ∃ w r, s = w ++ c :: r ∧ c ∉ w
  | [] => .inl (by simp)
  | b :: s => by
    by_cases hb : b = c
    · subst hb; exact .inr ⟨[], s, rfl, by simp⟩
    · rcases first_of c s with h | ⟨w, r, h, hw⟩
      · refine .inl ?_
        simp only [List.mem_cons, not_or]
        exact ⟨Ne.symm hb, h⟩
      · refine .inr ⟨b :: w, r, by rw [h]; rfl, ?_⟩
        simp only [List.mem_cons, not_or]
        exact ⟨Ne.symm hb, hw⟩

theorem indexByte_miss {c : UInt8} : ∀ {s : List UInt8}, c ∉ s → Lib.indexByte s c = -1
  | [], _ => rfl
  | b :: s, h => by
    simp only [List.mem_cons, not_or] at h
    unfold Lib.indexByte
    rw [if_neg (by simpa using Ne.symm h.1), indexByte_miss h.2]
    rfl
theorem indexByte_hit {c : UInt8} : ∀ {w : List UInt8} (r : List UInt8), c ∉ w → Lib.indexByte (w ++ c :: r) c = w.length
  | [], r, _ => by simp [Lib.indexByte]
  | b :: w, r, h => by
    simp only [List.mem_cons, not_or] at h
    rw [List.cons_append]
    unfold Lib.indexByte
    rw [if_neg (by simpa using Ne.symm h.1), indexByte_hit r h.2, if_neg (by simp)]
    simp

theorem lf_miss {s : List UInt8} (h : (10 : UInt8) ∉ s) : lf s = -1 := indexByte_miss h
theorem lf_hit {w : List UInt8} (r : List UInt8) (h : (10 : UInt8) ∉ w) : lf (w ++ 10 :: r) = w.length := indexByte_hit r h

theorem take_hit (w : List UInt8) (c : UInt8) (r : List UInt8) : (w ++ c :: r).take w.length = w := by simp
theorem drop_hit (w : List UInt8) (c : UInt8) (r : List UInt8) : (w ++ c :: r).drop (w.length + 1) = r := by
  rw [List.drop_append]; simp

/-! ### Words -/

theorem wordsL_eq (s : List UInt8) : wordsL s = Lib.splitK [32] 0 (s.count 32) s := by
  have h : Lib.countB ⟨s.toArray⟩ ⟨#[32]⟩ = s.count 32 := Lib.count_one 32 s
  unfold wordsL
  rw [h]

theorem wordsL_last {w : List UInt8} (h : (32 : UInt8) ∉ w) : wordsL w = [w] := by
  rw [wordsL_eq, List.count_eq_zero_of_not_mem h]
  rfl
theorem wordsL_hit {w : List UInt8} (r : List UInt8) (h : (32 : UInt8) ∉ w) : wordsL (w ++ 32 :: r) = w :: wordsL r := by
  rw [wordsL_eq, wordsL_eq, List.count_append, List.count_eq_zero_of_not_mem h, List.count_cons_self, Nat.zero_add]
  have hi : Lib.index (w ++ 32 :: r) [32] = w.length := by rw [Lib.index_one]; exact indexByte_hit r h
  rw [Lib.splitK, hi, if_neg (by simp)]
  simp only [Int.toNat_natCast, Nat.add_zero, List.length_singleton, take_hit, drop_hit]

theorem wordsL_four {s a b c d : List UInt8} (h : wordsL s = [a, b, c, d]) : s = a ++ 32 :: (b ++ 32 :: (c ++ 32 :: d)) := by
  rcases first_of 32 s with h0 | ⟨w, r, rfl, hw⟩
  · rw [wordsL_last h0] at h; simp at h
  · rw [wordsL_hit r hw, List.cons.injEq] at h
    obtain ⟨rfl, h⟩ := h
    rcases first_of 32 r with h0 | ⟨w2, r2, rfl, hw2⟩
    · rw [wordsL_last h0] at h; simp at h
    · rw [wordsL_hit r2 hw2, List.cons.injEq] at h
      obtain ⟨rfl, h⟩ := h
      rcases first_of 32 r2 with h0 | ⟨w3, r3, rfl, hw3⟩
      · rw [wordsL_last h0] at h; simp at h
      · rw [wordsL_hit r3 hw3, List.cons.injEq] at h
        obtain ⟨rfl, h⟩ := h
        rcases first_of 32 r3 with h0 | ⟨w4, r4, rfl, hw4⟩
        · rw [wordsL_last h0] at h
          simp only [List.cons.injEq, and_true] at h
          rw [h]
        · rw [wordsL_hit r4 hw4, List.cons.injEq] at h
          have := h.2
          rw [wordsL_eq] at this
          have hl : (Lib.splitK [32] 0 (r4.count 32) r4) ≠ [] := by
            cases hk : r4.count 32 <;> simp [Lib.splitK]
            split <;> simp
          exact absurd this hl

/-! ### Numerals -/

theorem head_app (r : List UInt8) {l : List UInt8} (h : l ≠ []) : (l ++ r).head? = l.head? := by
  cases l with
  | nil => exact absurd rfl h
  | cons a l => rfl


theorem dec_small {u : Nat} (h : u < 10) : Lib.decDigits u = [UInt8.ofNat (48 + u)] := by rw [Lib.decDigits, dif_pos h]
theorem dec_big {u : Nat} (h : ¬ u < 10) : Lib.decDigits u = Lib.decDigits (u / 10) ++ [UInt8.ofNat (48 + u % 10)] := by rw [Lib.decDigits, dif_neg h]

theorem dg_nat {u : Nat} (h : u < 10) : (UInt8.ofNat (48 + u)).toNat = 48 + u := by
  rw [UInt8.toNat_ofNat']
  exact Nat.mod_eq_of_lt (by omega)
theorem dg_dig8 {u : Nat} (h : u < 10) : dig8 (UInt8.ofNat (48 + u)) = true := by
  unfold dig8
  rw [dg_nat h]
  exact decide_eq_true (by omega)

theorem dec_digits (u : Nat) : (Lib.decDigits u).all dig8 = true ∧ val (Lib.decDigits u) = u ∧ Lib.decDigits u ≠ [] ∧ (1 ≤ u → (Lib.decDigits u).head? ≠ some 48) := by
  induction u using Nat.strongRecOn with
  | ind u ih =>
    by_cases h : u < 10
    · rw [dec_small h]
      refine ⟨by simp only [List.all_cons, List.all_nil, Bool.and_true, dg_dig8 h], ?_, by simp, fun h1 => ?_⟩
      · have := val_snoc [] (UInt8.ofNat (48 + u))
        rw [List.nil_append] at this
        rw [this, dg_nat h]
        simp [val]
      · simp only [List.head?_cons, ne_eq, Option.some.injEq]
        intro e
        have := congrArg UInt8.toNat e
        rw [dg_nat h] at this
        have h48 : (48 : UInt8).toNat = 48 := rfl
        omega
    · obtain ⟨h1, h2, h3, h4⟩ := ih (u / 10) (by omega)
      rw [dec_big h]
      have hm : u % 10 < 10 := Nat.mod_lt _ (by omega)
      refine ⟨?_, ?_, by simp, fun _ => ?_⟩
      · rw [List.all_append, h1]; simp only [List.all_cons, List.all_nil, Bool.and_true, dg_dig8 hm]
      · rw [val_snoc, h2, dg_nat hm]; omega
      · rw [head_app _ h3]
        exact h4 (by omega)

theorem numL_dec (u : Nat) : numL (Lib.decDigits u) = some u := by
  obtain ⟨h1, h2, h3, h4⟩ := dec_digits u
  unfold numL
  rw [if_neg, if_pos h1, h2]
  rintro (h | ⟨hl, hh⟩)
  · exact h3 h
  · by_cases hu : u < 10
    · rw [dec_small hu] at hl; simp at hl
    · exact h4 (by omega) hh

theorem dec_val (d : List UInt8) : d ≠ [] → d.all dig8 = true → (d.length = 1 ∨ d.head? ≠ some 48) → Lib.decDigits (val d) = d := by
  rw [← List.reverse_reverse d]
  generalize d.reverse = r
  induction r with
  | nil => intro h; simp at h
  | cons c r ih =>
    intro _ hd hh
    rw [List.reverse_cons] at hd hh ⊢
    rw [List.all_append] at hd
    simp only [List.all_cons, List.all_nil, Bool.and_true, Bool.and_eq_true] at hd
    obtain ⟨hd1, hc⟩ := hd
    have hc' := hc
    unfold dig8 at hc'
    rw [decide_eq_true_iff] at hc'
    rw [val_snoc]
    have hcc : UInt8.ofNat (48 + (c.toNat - 48)) = c := by
      rw [show 48 + (c.toNat - 48) = c.toNat by omega]
      exact UInt8.ofNat_toNat
    by_cases hr : r = []
    · subst hr
      simp only [List.reverse_nil, List.nil_append]
      have : val [] = 0 := rfl
      rw [this, Nat.mul_zero, Nat.zero_add, dec_small (by omega), hcc]
    · have hrn : r.reverse ≠ [] := by simpa using hr
      have hh2 : r.reverse.head? ≠ some 48 := by
        rcases hh with h | h
        · rw [List.length_append] at h
          have : 0 < r.reverse.length := List.length_pos_iff.2 hrn
          simp only [List.length_singleton] at h
          omega
        · rwa [head_app _ hrn] at h
      have hi := ih hrn hd1 (.inr hh2)
      have hv : 1 ≤ val r.reverse := by
        rcases Nat.eq_zero_or_pos (val r.reverse) with h | h
        · rw [h] at hi
          rw [← hi, dec_small (by omega)] at hh2
          exact absurd rfl hh2
        · exact h
      rw [dec_big (by omega), show (10 * val r.reverse + (c.toNat - 48)) / 10 = val r.reverse by omega, show (10 * val r.reverse + (c.toNat - 48)) % 10 = c.toNat - 48 by omega, hi, hcc]

theorem numL_some {d : List UInt8} {v : Nat} (h : numL d = some v) : Lib.decDigits v = d := by
  unfold numL at h
  split at h
  · cases h
  · rename_i h1
    split at h
    · rename_i h2
      rw [Option.some.injEq] at h
      rw [← h]
      refine dec_val d (fun e => h1 (.inl e)) h2 ?_
      by_cases hl : d.length = 1
      · exact .inl hl
      · refine .inr fun hh => h1 (.inr ⟨?_, hh⟩)
        have : d.length ≠ 0 := fun e => h1 (.inl (List.length_eq_zero_iff.1 e))
        omega
    · cases h

/-! ### Lines -/

theorem last_app {l : List UInt8} (w : List UInt8) (h : l ≠ []) : (w ++ l).getLast? = l.getLast? := by
  rw [List.getLast?_append]
  cases hl : l.getLast? with
  | none => exact absurd (List.getLast?_eq_none_iff.1 hl) h
  | some x => rfl

theorem linesLen_hit {n : Nat} {w : List UInt8} (r : List UInt8) (h : (10 : UInt8) ∉ w) : linesLen (n + 1) (w ++ 10 :: r) = (linesLen n r).map (· + (w.length + 1)) := by
  rw [linesLen, lf_hit r h, if_neg (by omega), Int.toNat_natCast, drop_hit]

theorem linesLen_count : ∀ (f : Nat) (t : List UInt8), t.length ≤ f → (t = [] ∨ t.getLast? = some 10) → ∀ rest, linesLen (t.count 10) (t ++ rest) = some t.length
  | f, [], _, _, rest => by rw [List.count_nil]; rfl
  | 0, c :: t, hf, _, _ => by simp at hf
  | f + 1, c :: t, hf, hl, rest => by
    have hl' : (c :: t).getLast? = some 10 := by
      rcases hl with h | h
      · cases h
      · exact h
    have hm : (10 : UInt8) ∈ c :: t := List.mem_of_getLast? hl'
    rcases first_of 10 (c :: t) with h0 | ⟨w, r, h, hw⟩
    · exact absurd hm h0
    · rw [h] at hf hl' ⊢
      rw [List.length_append, List.length_cons] at hf
      have hr : r = [] ∨ r.getLast? = some 10 := by
        by_cases he : r = []
        · exact .inl he
        · rw [last_app w (by simp), show (10 :: r) = [10] ++ r from rfl, last_app [10] he] at hl'
          exact .inr hl'
      have ih := linesLen_count f r (by omega) hr rest
      rw [List.count_append, List.count_eq_zero_of_not_mem hw, List.count_cons_self, Nat.zero_add, List.append_assoc, List.cons_append, linesLen_hit _ hw, ih, List.length_append, List.length_cons, Option.map_some]
      congr 1
      omega

theorem linesLen_back : ∀ (v : Nat) (s : List UInt8) (q : Nat), linesLen v s = some q → (s.take q).count 10 = v ∧ (s.take q = [] ∨ (s.take q).getLast? = some 10)
  | 0, s, q, h => by
    simp only [linesLen, Option.some.injEq] at h
    subst h
    simp
  | v + 1, s, q, h => by
    rcases first_of 10 s with h0 | ⟨w, r, rfl, hw⟩
    · rw [linesLen, lf_miss h0, if_pos (by decide)] at h; cases h
    · rw [linesLen_hit r hw] at h
      obtain ⟨q', hq, rfl⟩ := Option.map_eq_some_iff.1 h
      obtain ⟨h1, h2⟩ := linesLen_back v r q' hq
      have e : (w ++ 10 :: r).take (q' + (w.length + 1)) = w ++ 10 :: r.take q' := by
        rw [List.take_append, List.take_of_length_le (by omega), show q' + (w.length + 1) - w.length = q' + 1 by omega, List.take_succ_cons]
      rw [e, List.count_append, List.count_eq_zero_of_not_mem hw, List.count_cons_self, h1]
      refine ⟨by omega, .inr ?_⟩
      rw [last_app w (by simp)]
      rcases h2 with h2 | h2
      · rw [h2]; rfl
      · have hne : r.take q' ≠ [] := fun e => by rw [e] at h2; cases h2
        rw [show (10 :: r.take q') = [10] ++ r.take q' from rfl, last_app [10] hne]
        exact h2

/-! ### A section -/

theorem wordB_not {c : UInt8} (h : wordB c.toNat = true) : c ≠ 32 ∧ c ≠ 10 := by
  constructor
  · rintro rfl; revert h; decide
  · rintro rfl; revert h; decide
theorem nameB_not {n : List UInt8} (h : nameB n = true) : (32 : UInt8) ∉ n ∧ (10 : UInt8) ∉ n := by
  unfold nameB at h
  split at h
  · cases h
  · rename_i c l
    rw [Bool.and_eq_true, List.all_eq_true] at h
    exact ⟨fun hm => (wordB_not (h.2 _ hm)).1 rfl, fun hm => (wordB_not (h.2 _ hm)).2 rfl⟩
theorem kindB_not {k : List UInt8} (h : kindB k = true) : (32 : UInt8) ∉ k ∧ (10 : UInt8) ∉ k := by
  simp only [kindB, Bool.or_eq_true, beq_iff_eq] at h
  rcases h with rfl | rfl | rfl | rfl | rfl <;> decide
theorem dig8_not {c : UInt8} (h : dig8 c = true) : c ≠ 32 ∧ c ≠ 10 := by
  constructor
  · rintro rfl; revert h; decide
  · rintro rfl; revert h; decide
theorem digits_not {d : List UInt8} (h : d.all dig8 = true) : (32 : UInt8) ∉ d ∧ (10 : UInt8) ∉ d := by
  rw [List.all_eq_true] at h
  exact ⟨fun hm => (dig8_not (h _ hm)).1 rfl, fun hm => (dig8_not (h _ hm)).2 rfl⟩

theorem formL_zero {x : Sec} (h : formL x = 0) : kindB x.k = true ∧ nameB x.n = true ∧ (x.t = [] ∨ x.t.getLast? = some 10) := by
  obtain ⟨hk, hn⟩ := formL_ok h
  refine ⟨hk, hn, ?_⟩
  unfold formL at h
  rw [hk, hn, if_neg (by decide), if_neg (by decide)] at h
  split at h
  · cases h
  · rename_i h1
    by_cases ht : x.t = []
    · exact .inl ht
    · refine .inr ?_
      by_cases hl : x.t.getLast? = some 10
      · exact hl
      · exact absurd ⟨ht, hl⟩ h1

theorem itoa_nat (c : Nat) : Lib.itoa (c : Int) = Lib.decDigits c := by
  unfold Lib.itoa
  rw [if_neg (by omega), Int.toNat_natCast]

theorem secText_eq (x : Sec) : secText x = ([61, 61] ++ 32 :: (x.k ++ 32 :: (x.n ++ 32 :: Lib.decDigits (x.t.count 10)))) ++ 10 :: x.t := by
  unfold secText Lib.countByte
  rw [itoa_nat]
  simp

/-- A section is restored from its text. -/
theorem secL_text {x : Sec} (h : formL x = 0) (r : List UInt8) : secL (secText x ++ r) = some (x, x.t.count 10, r) := by
  obtain ⟨hk, hn, ht⟩ := formL_zero h
  obtain ⟨k1, k2⟩ := kindB_not hk
  obtain ⟨n1, n2⟩ := nameB_not hn
  obtain ⟨d1, d2, d3, d4⟩ := dec_digits (x.t.count 10)
  obtain ⟨g1, g2⟩ := digits_not d1
  have hline : (10 : UInt8) ∉ [61, 61] ++ 32 :: (x.k ++ 32 :: (x.n ++ 32 :: Lib.decDigits (x.t.count 10))) := by
    simp only [List.mem_append, List.mem_cons, not_or, List.not_mem_nil, not_false_eq_true, and_true]
    exact ⟨⟨by decide, by decide⟩, by decide, k2, by decide, n2, by decide, g2⟩
  have hhead : headL ([61, 61] ++ 32 :: (x.k ++ 32 :: (x.n ++ 32 :: Lib.decDigits (x.t.count 10)))) = some (x.k, x.n, x.t.count 10) := by
    unfold headL
    rw [wordsL_hit _ (by decide), wordsL_hit _ k1, wordsL_hit _ n1, wordsL_last g1]
    simp only [hk, hn, and_self, if_true, numL_dec, Option.map_some]
  rw [secText_eq]
  generalize [61, 61] ++ 32 :: (x.k ++ 32 :: (x.n ++ 32 :: Lib.decDigits (x.t.count 10))) = line at hline hhead ⊢
  rw [List.append_assoc, List.cons_append]
  unfold secL
  rw [lf_hit _ hline, if_neg (by omega), Int.toNat_natCast, take_hit, drop_hit, hhead]
  dsimp only
  rw [linesLen_count _ x.t (Nat.le_refl _) ht]
  dsimp only
  rw [List.take_left, List.drop_left]

/-- A section's text is restored from what was read. -/
theorem secL_back {s r : List UInt8} {x : Sec} {v : Nat} (h : secL s = some (x, v, r)) (hs : s.length ≤ 1000000) : s = secText x ++ r ∧ formL x = 0 := by
  unfold secL at h
  split at h
  · cases h
  · rename_i h0
    split at h
    · cases h
    · rename_i k n w hh
      split at h
      · cases h
      · rename_i q hq
        simp only [Option.some.injEq, Prod.mk.injEq] at h
        obtain ⟨rfl, rfl, rfl⟩ := h
        rcases first_of 10 s with hm | ⟨a, b, rfl, ha⟩
        · rw [lf_miss hm] at h0; exact absurd (by decide) h0
        · rw [lf_hit b ha, Int.toNat_natCast] at hh hq ⊢
          rw [take_hit] at hh
          rw [drop_hit] at hq ⊢
          obtain ⟨c1, c2⟩ := linesLen_back _ _ _ hq
          unfold headL at hh
          split at hh
          · rename_i x1 x2 x3 x4 hw
            split at hh
            · rename_i hc
              obtain ⟨rfl, hk, hn⟩ := hc
              obtain ⟨v', hv, he⟩ := Option.map_eq_some_iff.1 hh
              simp only [Prod.mk.injEq] at he
              obtain ⟨rfl, rfl, rfl⟩ := he
              have hd := numL_some hv
              have hj := wordsL_four hw
              constructor
              · rw [secText_eq]
                dsimp only
                rw [c1, hd, ← hj, List.append_assoc, List.cons_append, List.take_append_drop]
              · unfold formL
                dsimp only
                rw [hk, hn, if_neg (by decide), if_neg (by decide), if_neg, if_neg]
                · rw [List.length_append, List.length_cons] at hs
                  rw [List.length_take]
                  omega
                · rintro ⟨h1, h2⟩
                  rcases c2 with h | h
                  · exact h1 h
                  · exact h2 h
            · cases hh
          · cases hh

/-- Parse inverts Print. -/
theorem parseF_print : ∀ (l : List Sec) (f : Nat) (acc : List Sec) (line : Nat), errL l = 0 → (printL l).length ≤ f → parseF f (printL l) acc line = (acc ++ l, 0, 0)
  | [], f, acc, line, _, _ => by rw [show printL [] = [] from rfl, List.append_nil]; cases f <;> rfl
  | x :: l, f, acc, line, h, hf => by
    have hx : formL x = 0 ∧ errL l = 0 := by
      unfold errL at h
      split at h
      · exact ⟨by assumption, h⟩
      · rename_i hx; exact absurd h hx
    have hp : printL (x :: l) = secText x ++ printL l := rfl
    rw [hp] at hf ⊢
    have hne : secText x ≠ [] := by simp [secText]
    have hl0 := List.length_pos_iff.2 hne
    rw [List.length_append] at hf
    obtain ⟨f, rfl⟩ : ∃ g, f = g + 1 := ⟨f - 1, by omega⟩
    rw [parseF, if_neg (fun e => hne (List.append_eq_nil_iff.1 e).1), secL_text hx.1]
    dsimp only
    rw [parseF_print l f _ _ hx.2 (by omega), List.append_assoc]
    rfl

theorem parseL_print {l : List Sec} (h : errL l = 0) : parseL (printL l) = (l, 0, 0) := by
  have := parseF_print l (printL l).length [] 1 h (Nat.le_refl _)
  simpa [parseL] using this

/-- Print inverts Parse. -/
theorem parseF_back : ∀ (f : Nat) (s : List UInt8) (acc : List Sec) (line : Nat) (o : List Sec) (n : Nat), s.length ≤ f → s.length ≤ 1000000 → parseF f s acc line = (o, n, 0) → ∃ l, o = acc ++ l ∧ errL l = 0 ∧ printL l = s ∧ ∀ x ∈ l, x.t.length ≤ s.length
  | 0, s, acc, line, o, n, hf, hs, h => by
    have : s = [] := List.length_eq_zero_iff.1 (by omega)
    subst this
    simp only [parseF, Prod.mk.injEq] at h
    exact ⟨[], by rw [← h.1]; simp, rfl, rfl, by simp⟩
  | f + 1, s, acc, line, o, n, hf, hs, h => by
    unfold parseF at h
    split at h
    · rename_i h0
      subst h0
      simp only [Prod.mk.injEq] at h
      exact ⟨[], by rw [← h.1]; simp, rfl, rfl, by simp⟩
    · split at h
      · simp at h
      · rename_i x v r hsec
        obtain ⟨h1, h2⟩ := secL_len hsec
        obtain ⟨h3, h4⟩ := secL_back hsec hs
        obtain ⟨l, rfl, h5, h6, h7⟩ := parseF_back f r _ _ o n (by omega) (by omega) h
        refine ⟨x :: l, by simp, ?_, ?_, fun y hy => ?_⟩
        · unfold errL; rw [if_pos h4, h5]
        · rw [h3, ← h6]; rfl
        · rcases List.mem_cons.1 hy with rfl | hy
          · exact h2
          · have := h7 y hy; omega

theorem parseL_back {s : List UInt8} {l : List Sec} {n : Nat} (hs : s.length ≤ 1000000) (h : parseL s = (l, n, 0)) : errL l = 0 ∧ printL l = s ∧ ∀ x ∈ l, x.t.length ≤ s.length := by
  obtain ⟨l', rfl, h1, h2, h3⟩ := parseF_back s.length s [] 1 l n (Nat.le_refl _) hs h
  exact ⟨h1, h2, h3⟩

end Go.Am
