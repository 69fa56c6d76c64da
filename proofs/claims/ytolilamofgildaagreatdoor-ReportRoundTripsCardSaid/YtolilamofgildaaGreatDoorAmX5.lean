/-
Texts joined, one after the other. Conditions: those that each theorem names.
-/
import Derived.Test.YtolilamofgildaaGreatDoorAmX4
import Derived.Test.YtolilamofgildaaGreatDoorAmX3
import Derived.Lib.IndexBytes
import Derived.Lib.IndexLaws
import Derived.Lib.SplitLaws
import Derived.Lib.AtoiAllCases
import Derived.Test.YtolilamofgildaaGreatDoorMc
set_option linter.unusedSimpArgs false
set_option linter.unusedVariables false

/- What a line of an event says, in plain words. Conditions: none. -/
namespace Go.Am

/-! ### The first of a byte -/

theorem first_of (c : UInt8) : ∀ s : List UInt8, c ∉ s ∨ ∃ w r, s = w ++ c :: r ∧ c ∉ w
  | [] => .inl (by simp)
  | b :: s => by
    by_cases hb : b = c
    · subst hb; exact .inr ⟨[], s, rfl, by simp⟩
    · rcases first_of c s with h | ⟨w, r, h, hw⟩
      · refine .inl ?_
        simp only [List.mem_cons, not_or]
        exact ⟨Ne.symm hb, h⟩
      · refine .inr ⟨b :: w, r, by rw [h]; rfl, ?_⟩
        simp only [List.mem_cons, not_or]
        exact ⟨Ne.symm hb, hw⟩

theorem indexByte_miss {c : UInt8} : ∀ {s : List UInt8}, c ∉ s → Lib.indexByte s c = -1
  | [], _ => rfl
  | b :: s, h => by
    simp only [List.mem_cons, not_or] at h
    unfold Lib.indexByte
    rw [if_neg (by simpa using Ne.symm h.1), indexByte_miss h.2]
    rfl
theorem indexByte_hit {c : UInt8} : ∀ {w : List UInt8} (r : List UInt8), c ∉ w → Lib.indexByte (w ++ c :: r) c = w.length
  | [], r, _ => by simp [Lib.indexByte]
  | b :: w, r, h => by
    simp only [List.mem_cons, not_or] at h
    rw [List.cons_append]
    unfold Lib.indexByte
    rw [if_neg (by simpa using Ne.symm h.1), indexByte_hit r h.2, if_neg (by simp)]
    simp

theorem take_hit (w : List UInt8) (c : UInt8) (r : List UInt8) : (w ++ c :: r).take w.length = w := by simp
theorem drop_hit (w : List UInt8) (c : UInt8) (r : List UInt8) : (w ++ c :: r).drop (w.length + 1) = r := by
  rw [List.drop_append]; simp

/-- The bytes before the first blank, and those after it. -/
def wordO (s : List UInt8) : Option (List UInt8 × List UInt8) := if Lib.indexByte s 32 < 0 then none else some (s.take (Lib.indexByte s 32).toNat, s.drop ((Lib.indexByte s 32).toNat + 1))

theorem wordO_miss {s : List UInt8} (h : (32 : UInt8) ∉ s) : wordO s = none := by
  unfold wordO
  rw [indexByte_miss h, if_pos (by decide)]
theorem wordO_hit {w : List UInt8} (r : List UInt8) (h : (32 : UInt8) ∉ w) : wordO (w ++ 32 :: r) = some (w, r) := by
  unfold wordO
  rw [indexByte_hit r h, if_neg (by omega), Int.toNat_natCast, take_hit, drop_hit]
theorem wordO_some {s w r : List UInt8} (h : wordO s = some (w, r)) : s = w ++ 32 :: r ∧ (32 : UInt8) ∉ w := by
  rcases first_of 32 s with h0 | ⟨w', r', rfl, hw⟩
  · rw [wordO_miss h0] at h; cases h
  · rw [wordO_hit r' hw, Option.some.injEq, Prod.mk.injEq] at h
    obtain ⟨rfl, rfl⟩ := h
    exact ⟨rfl, hw⟩
theorem wordO_len {s w r : List UInt8} (h : wordO s = some (w, r)) : w.length + r.length + 1 = s.length := by
  obtain ⟨rfl, _⟩ := wordO_some h
  rw [List.length_append, List.length_cons]; omega

/-- The words before the first k blanks, and what follows. -/
def cutN : Nat → List UInt8 → List (List UInt8)
  | 0, s => [s]
  | k + 1, s => match wordO s with
    | none => [s]
    | some (w, r) => w :: cutN k r

theorem cutN_long : ∀ (k j : Nat) (s : List UInt8), s.length ≤ k → s.length ≤ j → cutN k s = cutN j s
  | 0, j, s, hk, hj => by
    have : s = [] := List.length_eq_zero_iff.1 (by omega)
    subst this
    cases j <;> rfl
  | k + 1, 0, s, hk, hj => by
    have : s = [] := List.length_eq_zero_iff.1 (by omega)
    subst this
    rfl
  | k + 1, j + 1, s, hk, hj => by
    unfold cutN
    cases h : wordO s with
    | none => rfl
    | some p =>
      obtain ⟨w, r⟩ := p
      have := wordO_len h
      dsimp only
      rw [cutN_long k j r (by omega) (by omega)]

theorem splitK_cut : ∀ (k : Nat) (s : List UInt8), Lib.splitK [32] 0 k s = cutN k s
  | 0, s => rfl
  | k + 1, s => by
    have ih := splitK_cut k
    rw [Lib.splitK, Lib.index_one]
    unfold cutN
    rcases first_of 32 s with h | ⟨w, r, rfl, hw⟩
    · rw [indexByte_miss h, wordO_miss h]; rfl
    · rw [indexByte_hit r hw, wordO_hit r hw, if_neg (by simp)]
      simp only [Int.toNat_natCast, Nat.add_zero, List.length_singleton, take_hit, drop_hit, ih]

theorem splitN_cut (s : List UInt8) : Lib.splitN s [32] 7 = cutN 6 s := by
  unfold Lib.splitN
  rw [splitK_cut]
  by_cases h : 6 ≤ s.length
  · rw [show min 7 (s.length + 1) - 1 = 6 by omega]
  · exact cutN_long _ _ _ (by omega) (by omega)

theorem cutN_le : ∀ (k : Nat) (s : List UInt8), 1 ≤ (cutN k s).length ∧ (cutN k s).length ≤ k + 1 ∧ (cutN k s).length ≤ s.length + 1
  | 0, s => by simp [cutN]
  | k + 1, s => by
    unfold cutN
    cases h : wordO s with
    | none => simp
    | some p =>
      obtain ⟨w, r⟩ := p
      have h1 := wordO_len h
      have h2 := cutN_le k r
      simp only [List.length_cons]
      omega

/-! ### Numbers -/

def dig8 (c : UInt8) : Bool := decide (48 ≤ c.toNat ∧ c.toNat ≤ 57)
/-- The value of digits. -/
def val (s : List UInt8) : Nat := s.foldl (fun n c => 10 * n + (c.toNat - 48)) 0
theorem val_snoc (s : List UInt8) (c : UInt8) : val (s ++ [c]) = 10 * val s + (c.toNat - 48) := by simp [val]
theorem val_step {s : List UInt8} {i : Nat} {c : UInt8} (h : s[i]? = some c) : val (s.take (i + 1)) = 10 * val (s.take i) + (c.toNat - 48) := by
  rw [List.take_add_one, h, Option.toList_some, val_snoc]
theorem foldl_ge : ∀ (s : List UInt8) (n : Nat), n ≤ s.foldl (fun n c => 10 * n + (c.toNat - 48)) n
  | [], n => Nat.le_refl _
  | c :: s, n => Nat.le_trans (by omega) (foldl_ge s (10 * n + (c.toNat - 48)))
theorem val_take_le (s : List UInt8) (i : Nat) : val (s.take i) ≤ val s := by
  have h : val s = (s.drop i).foldl (fun n c => 10 * n + (c.toNat - 48)) (val (s.take i)) := by
    unfold val
    rw [← List.foldl_append, List.take_append_drop]
  rw [h]
  exact foldl_ge _ _

theorem head_app (r : List UInt8) {l : List UInt8} (h : l ≠ []) : (l ++ r).head? = l.head? := by
  cases l with
  | nil => exact absurd rfl h
  | cons a l => rfl

theorem dec_small {u : Nat} (h : u < 10) : Lib.decDigits u = [UInt8.ofNat (48 + u)] := by rw [Lib.decDigits, dif_pos h]
theorem dec_big {u : Nat} (h : ¬ u < 10) : Lib.decDigits u = Lib.decDigits (u / 10) ++ [UInt8.ofNat (48 + u % 10)] := by rw [Lib.decDigits, dif_neg h]

theorem dg_nat {u : Nat} (h : u < 10) : (UInt8.ofNat (48 + u)).toNat = 48 + u := by
  rw [UInt8.toNat_ofNat']
  exact Nat.mod_eq_of_lt (by omega)
theorem dg_dig8 {u : Nat} (h : u < 10) : dig8 (UInt8.ofNat (48 + u)) = true := by
  unfold dig8
  rw [dg_nat h]
  exact decide_eq_true (by omega)

theorem dec_digits (u : Nat) : (Lib.decDigits u).all dig8 = true ∧ val (Lib.decDigits u) = u ∧ Lib.decDigits u ≠ [] ∧ (1 ≤ u → (Lib.decDigits u).head? ≠ some 48) := by
  induction u using Nat.strongRecOn with
  | ind u ih =>
    by_cases h : u < 10
    · rw [dec_small h]
      refine ⟨by simp only [List.all_cons, List.all_nil, Bool.and_true, dg_dig8 h], ?_, by simp, fun h1 => ?_⟩
      · have := val_snoc [] (UInt8.ofNat (48 + u))
        rw [List.nil_append] at this
        rw [this, dg_nat h]
        simp [val]
      · simp only [List.head?_cons, ne_eq, Option.some.injEq]
        intro e
        have := congrArg UInt8.toNat e
        rw [dg_nat h] at this
        have h48 : (48 : UInt8).toNat = 48 := rfl
        omega
    · obtain ⟨h1, h2, h3, h4⟩ := ih (u / 10) (by omega)
      rw [dec_big h]
      have hm : u % 10 < 10 := Nat.mod_lt _ (by omega)
      refine ⟨?_, ?_, by simp, fun _ => ?_⟩
      · rw [List.all_append, h1]; simp only [List.all_cons, List.all_nil, Bool.and_true, dg_dig8 hm]
      · rw [val_snoc, h2, dg_nat hm]; omega
      · rw [head_app _ h3]
        exact h4 (by omega)

theorem dec_val (d : List UInt8) : d ≠ [] → d.all dig8 = true → (d.length = 1 ∨ d.head? ≠ some 48) → Lib.decDigits (val d) = d := by
  rw [← List.reverse_reverse d]
  generalize d.reverse = r
  induction r with
  | nil => intro h; simp at h
  | cons c r ih =>
    intro _ hd hh
    rw [List.reverse_cons] at hd hh ⊢
    rw [List.all_append] at hd
    simp only [List.all_cons, List.all_nil, Bool.and_true, Bool.and_eq_true] at hd
    obtain ⟨hd1, hc⟩ := hd
    have hc' := hc
    unfold dig8 at hc'
    rw [decide_eq_true_iff] at hc'
    rw [val_snoc]
    have hcc : UInt8.ofNat (48 + (c.toNat - 48)) = c := by
      rw [show 48 + (c.toNat - 48) = c.toNat by omega]
      exact UInt8.ofNat_toNat
    by_cases hr : r = []
    · subst hr
      simp only [List.reverse_nil, List.nil_append]
      have : val [] = 0 := rfl
      rw [this, Nat.mul_zero, Nat.zero_add, dec_small (by omega), hcc]
    · have hrn : r.reverse ≠ [] := by simpa using hr
      have hh2 : r.reverse.head? ≠ some 48 := by
        rcases hh with h | h
        · rw [List.length_append] at h
          have : 0 < r.reverse.length := List.length_pos_iff.2 hrn
          simp only [List.length_singleton] at h
          omega
        · rwa [head_app _ hrn] at h
      have hi := ih hrn hd1 (.inr hh2)
      have hv : 1 ≤ val r.reverse := by
        rcases Nat.eq_zero_or_pos (val r.reverse) with h | h
        · rw [h] at hi
          rw [← hi, dec_small (by omega)] at hh2
          exact absurd rfl hh2
        · exact h
      rw [dec_big (by omega), show (10 * val r.reverse + (c.toNat - 48)) / 10 = val r.reverse by omega, show (10 * val r.reverse + (c.toNat - 48)) % 10 = c.toNat - 48 by omega, hi, hcc]

theorem dig8_not {c : UInt8} (h : dig8 c = true) : c ≠ 32 ∧ c ≠ 45 := by
  constructor
  · rintro rfl; revert h; decide
  · rintro rfl; revert h; decide
theorem digits_not {d : List UInt8} (h : d.all dig8 = true) : (32 : UInt8) ∉ d ∧ (45 : UInt8) ∉ d := by
  rw [List.all_eq_true] at h
  exact ⟨fun hm => (dig8_not (h _ hm)).1 rfl, fun hm => (dig8_not (h _ hm)).2 rfl⟩

/-- The digits of a number. -/
def magS (s : List UInt8) : List UInt8 := if s.head? = some 45 then s.tail else s
/-- The number that a word says. -/
def numZ (s : List UInt8) : Option Int :=
  if magS s = [] ∨ ((magS s).head? = some 48 ∧ s ≠ [48]) then none
  else if (magS s).all dig8 = true then some (if s.head? = some 45 then -(val (magS s) : Int) else val (magS s)) else none

theorem magS_minus (d : List UInt8) : magS (45 :: d) = d := rfl
theorem magS_plain {d : List UInt8} (h : d.head? ≠ some 45) : magS d = d := if_neg h

theorem dec_head (u : Nat) : (Lib.decDigits u).head? ≠ some 45 := by
  obtain ⟨h1, _, h3, _⟩ := dec_digits u
  intro h
  exact (digits_not h1).2 (List.mem_of_mem_head? h)

theorem numZ_itoa (n : Int) : numZ (Lib.itoa n) = some n := by
  unfold Lib.itoa
  by_cases hn : n < 0
  · rw [if_pos hn]
    obtain ⟨h1, h2, h3, h4⟩ := dec_digits n.natAbs
    unfold numZ
    have e : (45 : UInt8) :: Lib.decDigits n.natAbs = 45 :: Lib.decDigits n.natAbs := rfl
    rw [magS_minus, if_neg, if_pos h1, if_pos (List.head?_cons ..), h2]
    · congr 1; omega
    · rintro (h | ⟨h, _⟩)
      · exact h3 h
      · exact h4 (by omega) h
  · rw [if_neg hn]
    obtain ⟨h1, h2, h3, h4⟩ := dec_digits n.toNat
    unfold numZ
    rw [magS_plain (dec_head _), if_neg, if_pos h1, if_neg (dec_head _), h2]
    · congr 1; omega
    · rintro (h | ⟨h, h0⟩)
      · exact h3 h
      · by_cases hu : 1 ≤ n.toNat
        · exact h4 hu h
        · have : n.toNat = 0 := by omega
          rw [this, dec_small (by omega)] at h0
          exact h0 rfl

theorem numZ_some {w : List UInt8} {v : Int} (h : numZ w = some v) : w = Lib.itoa v := by
  unfold numZ at h
  split at h
  · cases h
  · rename_i h1
    split at h
    · rename_i h2
      rw [Option.some.injEq] at h
      by_cases h45 : w.head? = some 45
      · obtain ⟨d, rfl⟩ : ∃ d, w = 45 :: d := by
          cases w with
          | nil => cases h45
          | cons a l => rw [List.head?_cons, Option.some.injEq] at h45; exact ⟨l, by rw [h45]⟩
        rw [if_pos h45] at h
        rw [magS_minus] at h1 h2 h
        have hne : d ≠ [] := fun e => h1 (.inl e)
        have hh : d.head? ≠ some 48 := fun e => h1 (.inr ⟨e, by simp⟩)
        have hv := dec_val d hne h2 (.inr hh)
        have hp : 1 ≤ val d := by
          rcases Nat.eq_zero_or_pos (val d) with h | h
          · rw [h, dec_small (by omega)] at hv
            rw [← hv] at hh
            exact absurd rfl hh
          · exact h
        unfold Lib.itoa
        rw [if_pos (by omega), show v.natAbs = val d by omega, hv]
      · rw [if_neg h45] at h
        rw [magS_plain h45] at h1 h2 h
        have hne : w ≠ [] := fun e => h1 (.inl e)
        have hh : w.length = 1 ∨ w.head? ≠ some 48 := by
          by_cases e : w.head? = some 48
          · have : w = [48] := Classical.byContradiction fun hw => h1 (.inr ⟨e, hw⟩)
            exact .inl (by rw [this]; rfl)
          · exact .inr e
        have hv := dec_val w hne h2 hh
        unfold Lib.itoa
        rw [if_neg (by omega), show v.toNat = val w by omega, hv]
    · cases h

/-! ### Names, quoted strings -/

def idx (w : List UInt8) : List (List UInt8) → Nat → Option Nat
  | [], _ => none
  | x :: xs, i => if x = w then some i else idx w xs (i + 1)

theorem idx_some {w : List UInt8} : ∀ {xs : List (List UInt8)} {i q : Nat}, idx w xs i = some q → i ≤ q ∧ xs[q - i]? = some w
  | [], i, q, h => by cases h
  | x :: xs, i, q, h => by
    unfold idx at h
    split at h
    · rename_i e
      rw [Option.some.injEq] at h
      subst h
      rw [e, Nat.sub_self]
      exact ⟨Nat.le_refl _, rfl⟩
    · obtain ⟨h1, h2⟩ := idx_some h
      refine ⟨by omega, ?_⟩
      rw [show q - i = (q - (i + 1)) + 1 by omega]
      exact h2

theorem kind_idx {k : Int} (h1 : 1 ≤ k) (h2 : k ≤ 8) : idx (kindName k) kindNames 0 = some (k - 1).toNat := by
  have : k = 1 ∨ k = 2 ∨ k = 3 ∨ k = 4 ∨ k = 5 ∨ k = 6 ∨ k = 7 ∨ k = 8 := by omega
  rcases this with rfl | rfl | rfl | rfl | rfl | rfl | rfl | rfl <;> decide
theorem idx_kind {w : List UInt8} {q : Nat} (h : idx w kindNames 0 = some q) : q < 8 ∧ w = kindName ((q : Int) + 1) := by
  obtain ⟨_, h2⟩ := idx_some h
  rw [Nat.sub_zero] at h2
  have hq : q < 8 := by
    by_cases hq : q < 8
    · exact hq
    · rw [List.getElem?_eq_none (by show 8 ≤ q; omega)] at h2; cases h2
  refine ⟨hq, ?_⟩
  unfold kindName
  rw [show ((q : Int) + 1 - 1).toNat = q by omega, List.getD_eq_getElem?_getD, h2]
  rfl

open Classical in
/-- The string that a word quotes. -/
noncomputable def unqL (w : List UInt8) : Option (List UInt8) := if h : ∃ d, w = quoteL d then some (Classical.choose h) else none
theorem unqL_some {w d : List UInt8} (h : unqL w = some d) : w = quoteL d := by
  unfold unqL at h
  split at h
  · rename_i hd
    rw [Option.some.injEq] at h
    rw [← h]
    exact Classical.choose_spec hd
  · cases h
theorem unqL_none {w : List UInt8} (h : unqL w = none) (d : List UInt8) : w ≠ quoteL d := fun e => by
  unfold unqL at h
  rw [dif_pos ⟨d, e⟩] at h
  cases h

/-- The first k numbers of a line, and what follows. -/
def numsL : Nat → List UInt8 → Option (List Int × List UInt8)
  | 0, s => some ([], s)
  | k + 1, s => (wordO s).bind fun p => (numZ p.1).bind fun z => (numsL k p.2).map fun q => (z :: q.1, q.2)

/-- The event of a line. -/
noncomputable def readL (s : List UInt8) : Option Ev :=
  (wordO s).bind fun p => (idx p.1 kindNames 0).bind fun k => (numsL 5 p.2).bind fun q => (unqL q.2).bind fun d => match q.1 with
    | [a, b, c, e, f] => some ⟨(k : Int) + 1, a, b, c, e, d, f⟩
    | _ => none

theorem numsL_some : ∀ {k : Nat} {s : List UInt8} {l : List Int} {r : List UInt8}, numsL k s = some (l, r) → l.length = k ∧ s = l.foldr (fun z t => Lib.itoa z ++ 32 :: t) r
  | 0, s, l, r, h => by
    simp only [numsL, Option.some.injEq, Prod.mk.injEq] at h
    obtain ⟨rfl, rfl⟩ := h
    exact ⟨rfl, rfl⟩
  | k + 1, s, l, r, h => by
    unfold numsL at h
    obtain ⟨p, hp, h⟩ := Option.bind_eq_some_iff.1 h
    obtain ⟨z, hz, h⟩ := Option.bind_eq_some_iff.1 h
    obtain ⟨q, hq, h⟩ := Option.map_eq_some_iff.1 h
    obtain ⟨w, t⟩ := p
    obtain ⟨l', r'⟩ := q
    simp only [Prod.mk.injEq] at h
    obtain ⟨rfl, rfl⟩ := h
    obtain ⟨h1, h2⟩ := numsL_some hq
    have h3 := (wordO_some hp).1
    have h4 := numZ_some hz
    refine ⟨by simp [h1], ?_⟩
    dsimp only at h2 h4
    rw [h3, h4, List.foldr_cons, ← h2]

theorem readL_some {s : List UInt8} {x : Ev} (h : readL s = some x) : s = lineL x ∧ 1 ≤ x.k ∧ x.k ≤ 8 := by
  unfold readL at h
  obtain ⟨p, hp, h⟩ := Option.bind_eq_some_iff.1 h
  obtain ⟨k, hk, h⟩ := Option.bind_eq_some_iff.1 h
  obtain ⟨q, hq, h⟩ := Option.bind_eq_some_iff.1 h
  obtain ⟨d, hd, h⟩ := Option.bind_eq_some_iff.1 h
  obtain ⟨w, t⟩ := p
  obtain ⟨l, r⟩ := q
  dsimp only at hk hq hd h
  split at h
  · rename_i a b c e f
    rw [Option.some.injEq] at h
    subst h
    have h1 := (wordO_some hp).1
    obtain ⟨hk8, hw⟩ := idx_kind hk
    obtain ⟨_, h2⟩ := numsL_some hq
    have h3 := unqL_some hd
    refine ⟨?_, by dsimp only; omega, by dsimp only; omega⟩
    rw [lineL_eq, h1, hw, h2, h3]
    simp
  · cases h

theorem itoa_not (n : Int) : (32 : UInt8) ∉ Lib.itoa n := by
  unfold Lib.itoa
  split
  · have := (digits_not (dec_digits n.natAbs).1).1
    simp only [List.mem_cons, not_or]
    exact ⟨by decide, this⟩
  · exact (digits_not (dec_digits n.toNat).1).1

theorem kindName_not (k : Int) : (32 : UInt8) ∉ kindName k := by
  have : ∀ n : Fin 8, (32 : UInt8) ∉ kindNames.getD n.val [] := by decide
  unfold kindName
  by_cases h : (k - 1).toNat < 8
  · exact this ⟨_, h⟩
  · rw [List.getD_eq_getElem?_getD, List.getElem?_eq_none (by show 8 ≤ _; omega)]; simp

theorem numsL_itoa : ∀ (l : List Int) (r : List UInt8), numsL l.length (l.foldr (fun z t => Lib.itoa z ++ 32 :: t) r) = some (l, r)
  | [], r => rfl
  | z :: l, r => by
    rw [List.foldr_cons, List.length_cons, numsL, wordO_hit _ (itoa_not z), Option.bind_some]
    dsimp only
    rw [numZ_itoa, Option.bind_some, numsL_itoa l r]
    rfl

theorem readL_line {x : Ev} (hq : ∀ d d', quoteL d = quoteL d' → d = d') (h1 : 1 ≤ x.k) (h2 : x.k ≤ 8) : readL (lineL x) = some x := by
  have e : lineL x = kindName x.k ++ 32 :: ([x.f, x.t, x.v, x.a, x.ft].foldr (fun z t => Lib.itoa z ++ 32 :: t) (quoteL x.d)) := by
    rw [lineL_eq]; simp
  have hu : unqL (quoteL x.d) = some x.d := by
    cases h : unqL (quoteL x.d) with
    | none => exact absurd rfl (unqL_none h x.d)
    | some d => rw [hq _ _ (unqL_some h)]
  have hn := numsL_itoa [x.f, x.t, x.v, x.a, x.ft] (quoteL x.d)
  unfold readL
  rw [e, wordO_hit _ (kindName_not _), Option.bind_some]
  dsimp only
  rw [kind_idx h1 h2, Option.bind_some]
  rw [show [x.f, x.t, x.v, x.a, x.ft].length = 5 from rfl] at hn
  rw [hn, Option.bind_some]
  dsimp only
  rw [hu, Option.bind_some]
  rw [show (((x.k - 1).toNat : Nat) : Int) + 1 = x.k by omega]

end Go.Am

/- The words and the numbers of a line of an event. Conditions: those that each theorem names. -/
namespace Go.Am

/-! ### A call by value of flat values does not depend on the heap -/

theorem backs_same {H1 H : AH} {kp : Nat} : ∀ {vs vs' : List AV}, backs H1 kp H vs = some (vs', H) → vs.all flat2 = true ∧ vs' = vs
  | [], vs', h => by
    simp only [backs, Option.some.injEq, Prod.mk.injEq, and_true] at h
    exact ⟨rfl, h.symm⟩
  | v :: vs, vs', h => by
    unfold backs at h
    split at h
    · rename_i hv
      split at h
      · rename_i vs2 H2 h2
        simp only [Option.some.injEq, Prod.mk.injEq] at h
        obtain ⟨rfl, rfl⟩ := h
        obtain ⟨h3, rfl⟩ := backs_same h2
        exact ⟨by simp only [List.all_cons, hv, h3, Bool.and_self], rfl⟩
      · cases h
    · split at h
      · split at h
        · split at h
          · split at h
            · simp only [Option.some.injEq, Prod.mk.injEq] at h
              have := congrArg AH.next h.2
              simp only at this
              omega
            · cases h
          · cases h
        · cases h
      · cases h

theorem ecall_any {G : Nat} {T : List (Nat × Blk)} {X : Ext} {M : Tab} {f : FuncId} {fn : AFun} {args us : List AV} (hX : X f = none) (hM : M f = some fn) (hv : fn.view = true) (hvw : ∀ H, views H args G = some (us, [], G)) {H0 : AH} {o : AV} (h : ecall G T X M f args H0 = some (.ok o, H0)) (H : AH) : ecall G T X M f args H = some (.ok o, H) := by
  obtain ⟨n, h⟩ := ecall_some G T X M h
  refine ecall_of G T X M (n := n) ?_
  cases n with
  | zero => cases h
  | succ n =>
    rw [acall] at h ⊢
    simp only [hX, hM, hv, if_true, hvw] at h ⊢
    generalize run (acall G T X M n) n fn.code ⟨number us 0, ⟨[] ++ T, G, G⟩⟩ = o1 at h ⊢
    have fin : ∀ s : St, (match resAll s.e s.H fn.res with
        | some vs => match backs s.H G H0 vs with
          | some (vs', H') => some (Out.ok (pack vs'), H')
          | none => none
        | none => none) = some (Out.ok o, H0) → (match resAll s.e s.H fn.res with
        | some vs => match backs s.H G H vs with
          | some (vs', H') => some (Out.ok (pack vs'), H')
          | none => none
        | none => none) = some (Out.ok o, H) := fun s h => by
      cases hvs : resAll s.e s.H fn.res with
      | none => rw [hvs] at h; cases h
      | some vs =>
        rw [hvs] at h
        dsimp only at h ⊢
        cases hb : backs s.H G H0 vs with
        | none => rw [hb] at h; cases h
        | some p =>
          obtain ⟨vs', H'⟩ := p
          rw [hb] at h
          simp only [Option.some.injEq, Prod.mk.injEq, Out.ok.injEq] at h
          obtain ⟨rfl, rfl⟩ := h
          obtain ⟨h1, rfl⟩ := backs_same hb
          rw [backs_flat h1]
    match o1, h with
    | some (.nrm, s), h => exact fin s h
    | some (.ret, s), h => exact fin s h
    | some (.exit _, _), h => cases h
    | some (.pan _, _), h => cases h
    | none, h => cases h

/-! ### What Atoi answers to digits -/

theorem parse10_digits : ∀ (l : List UInt8) (acc : Nat), l.all dig8 = true → acc < 18446744073709551616 →
    Lib.parseUint10 acc l = if l.foldl (fun n c => 10 * n + (c.toNat - 48)) acc < 18446744073709551616 then .ok (l.foldl (fun n c => 10 * n + (c.toNat - 48)) acc) else .range
  | [], acc, _, ha => by simp only [Lib.parseUint10, List.foldl_nil, ha, if_true]
  | c :: l, acc, hd, ha => by
    rw [List.all_cons, Bool.and_eq_true] at hd
    obtain ⟨hc, hl⟩ := hd
    unfold dig8 at hc
    rw [decide_eq_true_iff] at hc
    have hge := foldl_ge l (10 * acc + (c.toNat - 48))
    rw [Lib.parseUint10, if_pos hc, List.foldl_cons]
    by_cases h1 : 1844674407370955162 ≤ acc
    · rw [if_pos h1, if_neg (by omega)]
    · rw [if_neg h1]
      by_cases h2 : 18446744073709551616 ≤ acc * 10 + (c.toNat - 48)
      · rw [if_pos h2, if_neg (by omega)]
      · rw [if_neg h2, show acc * 10 + (c.toNat - 48) = 10 * acc + (c.toNat - 48) by omega, parse10_digits l _ hl (by omega)]

theorem parseMag_digits {d : List UInt8} (h : d ≠ []) (hd : d.all dig8 = true) : Lib.parseMag d = if val d < 18446744073709551616 then .ok (val d) else .range := by
  unfold Lib.parseMag
  rw [if_neg h]
  exact parse10_digits d 0 hd (by omega)

def fitsZ (v : Int) : Bool := decide (-9223372036854775808 ≤ v ∧ v ≤ 9223372036854775807)

theorem atoi_num {s : List UInt8} {v : Int} (h : numZ s = some v) : (fitsZ v = true → Lib.atoiAll s = .ok v) ∧ (fitsZ v = false → Lib.atoiAll s = .range) := by
  unfold numZ at h
  split at h
  · cases h
  · rename_i h1
    split at h
    · rename_i h2
      rw [Option.some.injEq] at h
      have hne : magS s ≠ [] := fun e => h1 (.inl e)
      have hp := parseMag_digits hne h2
      unfold fitsZ
      by_cases h45 : s.head? = some 45
      · obtain ⟨d, rfl⟩ : ∃ d, s = 45 :: d := by
          cases s with
          | nil => cases h45
          | cons a l => rw [List.head?_cons, Option.some.injEq] at h45; exact ⟨l, by rw [h45]⟩
        rw [if_pos h45] at h
        rw [magS_minus] at h hp
        rw [Lib.atoiAll_minus, hp]
        by_cases hv : val d < 18446744073709551616
        · rw [if_pos hv]
          unfold Lib.signed
          dsimp only
          constructor
          · intro hf
            rw [decide_eq_true_iff] at hf
            rw [if_neg (by omega), h]
          · intro hf
            rw [decide_eq_false_iff_not] at hf
            rw [if_pos (by omega)]
        · rw [if_neg hv]
          refine ⟨fun hf => ?_, fun _ => rfl⟩
          rw [decide_eq_true_iff] at hf
          omega
      · rw [if_neg h45] at h
        rw [magS_plain h45] at h hp hne h2
        cases s with
        | nil => exact absurd rfl hne
        | cons c r =>
          have hc : dig8 c = true := by rw [List.all_cons, Bool.and_eq_true] at h2; exact h2.1
          unfold dig8 at hc
          rw [decide_eq_true_iff] at hc
          rw [Lib.atoiAll_plain c r (by omega) (by omega), hp]
          by_cases hv : val (c :: r) < 18446744073709551616
          · rw [if_pos hv]
            unfold Lib.signless
            dsimp only
            constructor
            · intro hf
              rw [decide_eq_true_iff] at hf
              rw [if_neg (by omega), h]
            · intro hf
              rw [decide_eq_false_iff_not] at hf
              rw [if_pos (by omega)]
          · rw [if_neg hv]
            refine ⟨fun hf => ?_, fun _ => rfl⟩
            rw [decide_eq_true_iff] at hf
            omega
    · cases h

theorem numZ_bad {s : List UInt8} (h : magS s = [] ∨ ((magS s).head? = some 48 ∧ s ≠ [48])) : numZ s = none := if_pos h
theorem numZ_letter {s : List UInt8} (h : (magS s).all dig8 = false) : numZ s = none := by
  unfold numZ
  split
  · rfl
  · rw [if_neg (by rw [h]; decide)]
theorem numZ_good {s : List UInt8} (h : ¬ (magS s = [] ∨ ((magS s).head? = some 48 ∧ s ≠ [48]))) (hd : (magS s).all dig8 = true) : numZ s = some (if s.head? = some 45 then -(val (magS s) : Int) else val (magS s)) := by
  unfold numZ
  rw [if_neg h, if_pos hd]

/-! ### A sign -/

theorem Tryz.hasMinus (s : List UInt8) (hs : s.length ≤ 1000000) (H : AH) : Tryz.call 60 [.str s, .str [45]] H = some (.ok (.bool (s.head? == some 45)), H) := by
  refine ecall_flat 8 [] _ _ (out := [.bool (s.head? == some 45)]) rfl rfl rfl (views_flat rfl (views_flat rfl (views_nil H 8))) rfl ?_
  show W Tryz.call _ _ _ _ _
  cases s with
  | nil =>
    have d1 : decide ((([] : List UInt8).length : Int) ≥ (([45] : List UInt8).length : Int)) = false := by decide
    have e1 : ((none : Option UInt8) == some 45) = false := rfl
    simp only [Tryz.fn60, Tryz.fn60_r0, AmR, kp, exe, number, Arg.val, Env.at, lk, putd, ok1, Option.getD_some, if_true, if_false, reduceCtorEq, Nat.reduceEqDiff, Nat.reduceAdd, List.append_nil]
    simp only [Tryz.fn60_r1, AmR, kp, exe, Arg.val, Env.at, lk, putd, ok1, okM, abin, Option.getD_some, if_true, if_false, reduceCtorEq, Nat.reduceEqDiff, Nat.reduceAdd, decide_false, List.length_cons, List.length_nil, Int.cast_ofNat_Int, Int.reduceGE]
    simp only [Tryz.fn60_r2, List.head?_nil, e1, AmR, kp, exe, Arg.val, Env.at, lk, putd, ok1, Option.getD_some, if_true, if_false, Nat.reduceEqDiff, Bool.false_eq_true, resAll, resOf]
  | cons c r =>
    have d1 : decide (((c :: r).length : Int) ≥ (([45] : List UInt8).length : Int)) = true := decide_eq_true (by simp only [List.length_cons, List.length_nil]; omega)
    have b1 : bnds (c :: r).length (c :: r).length none (some (.int .i64 (([45] : List UInt8).length : Int))) = some (0, 1) := by
      have a1 : (0 : Int) ≤ (([45] : List UInt8).length : Int) ∧ (([45] : List UInt8).length : Int) ≤ ((c :: r).length : Int) := by simp only [List.length_cons, List.length_nil]; omega
      simp only [bnds, bnd, a1, and_self, if_true]
      rfl
    have e1 : (([c] : List UInt8) == [45]) = (some c == some 45) := by simp
    have e2 : List.take 1 (c :: r) = [c] := rfl
    have a2 : (0 : Int) ≤ (([45] : List UInt8).length : Int) := by decide
    simp only [Tryz.fn60, Tryz.fn60_r0, AmR, kp, exe, number, Arg.val, Env.at, lk, putd, ok1, Option.getD_some, if_true, if_false, reduceCtorEq, Nat.reduceEqDiff, Nat.reduceAdd, List.append_nil]
    rw [List.head?_cons, ← e1]
    generalize (c :: r) = l at d1 b1 e2 ⊢
    generalize ([45] : List UInt8) = m at d1 b1 ⊢
    simp only [Tryz.fn60_r1, d1, b1, e2, AmR, kp, exe, Arg.val, Env.at, lk, putd, ok1, okM, abin, Option.getD_some, if_true, if_false, reduceCtorEq, Nat.reduceEqDiff, Nat.reduceSub, List.drop_zero, Option.map_some, Option.map_none]
    simp only [Tryz.fn60_r2, AmR, kp, exe, Arg.val, Env.at, lk, putd, ok1, okM, abin, Option.getD_some, if_true, if_false, Nat.reduceEqDiff, resAll, resOf]

theorem Tryz.trimMinus1 (s : List UInt8) (hs : s.length ≤ 1000000) (H : AH) : Tryz.call 89 [.str s, .str [45]] H = some (.ok (.str (magS s)), H) := by
  refine ecall_flat 8 [] _ _ (out := [.str (magS s)]) rfl rfl rfl (views_flat rfl (views_flat rfl (views_nil H 8))) rfl ?_
  show W Tryz.call _ _ _ _ _
  have h1 := Tryz.hasMinus s hs
  by_cases h : s.head? = some 45
  · have e0 : (s.head? == some 45) = true := by rw [h]; rfl
    have e1 : magS s = s.drop 1 := by unfold magS; rw [if_pos h, List.drop_one]
    have hl : 1 ≤ s.length := by cases s with
      | nil => cases h
      | cons c r => rw [List.length_cons]; omega
    have b1 : bnds s.length s.length (some (.int .i64 (([45] : List UInt8).length : Int))) none = some (1, s.length) := by
      have a1 : (0 : Int) ≤ (([45] : List UInt8).length : Int) ∧ (([45] : List UInt8).length : Int) ≤ (s.length : Int) := by simp only [List.length_cons, List.length_nil]; omega
      simp only [bnds, bnd, a1, and_self, if_true]
      rfl
    have htk : (s.drop 1).take (s.length - 1) = s.drop 1 := List.take_of_length_le (by rw [List.length_drop]; omega)
    rw [e0] at h1
    rw [e1]
    generalize ([45] : List UInt8) = m at h1 b1 ⊢
    simp only [Tryz.fn89, Tryz.fn89_r0, AmR, kp, exe, number, Arg.val, Env.at, lk, putd, ok1, Option.getD_some, if_true, if_false, reduceCtorEq, Nat.reduceEqDiff, Nat.reduceAdd, List.append_nil]
    simp only [Tryz.fn89_r1, h1, AmR, kp, pushA, exe, Arg.val, Env.at, lk, putd, ok1, Option.getD_some, if_true, if_false, reduceCtorEq, Nat.reduceEqDiff, List.map_cons, List.map_nil]
    simp only [Tryz.fn89_r2, b1, htk, AmR, kp, exe, Arg.val, Env.at, lk, putd, ok1, Option.getD_some, if_true, if_false, reduceCtorEq, Nat.reduceEqDiff, resAll, resOf, Option.map_some, Option.map_none]
  · have e0 : (s.head? == some 45) = false := by rw [beq_eq_false_iff_ne]; exact h
    rw [e0] at h1
    rw [magS_plain h]
    simp only [Tryz.fn89, Tryz.fn89_r0, AmR, kp, exe, number, Arg.val, Env.at, lk, putd, ok1, Option.getD_some, if_true, if_false, reduceCtorEq, Nat.reduceEqDiff, Nat.reduceAdd, List.append_nil]
    simp only [Tryz.fn89_r1, h1, AmR, kp, pushA, exe, Arg.val, Env.at, lk, putd, ok1, Option.getD_some, if_true, if_false, reduceCtorEq, Nat.reduceEqDiff, List.map_cons, List.map_nil]
    simp only [Tryz.fn89_r3, AmR, kp, exe, Arg.val, Env.at, lk, putd, ok1, Option.getD_some, if_true, if_false, reduceCtorEq, Nat.reduceEqDiff, resAll, resOf]

theorem Tryz.trimMinus (s : List UInt8) (hs : s.length ≤ 1000000) (H : AH) : Tryz.call 75 [.str s, .str [45]] H = some (.ok (.str (magS s)), H) := by
  refine ecall_flat 8 [] _ _ (out := [.str (magS s)]) rfl rfl rfl (views_flat rfl (views_flat rfl (views_nil H 8))) rfl ?_
  show W Tryz.call _ _ _ _ _
  have h1 := Tryz.trimMinus1 s hs
  simp only [Tryz.fn75, Tryz.fn75_r0, AmR, kp, exe, number, Arg.val, Env.at, lk, putd, ok1, Option.getD_some, if_true, if_false, reduceCtorEq, Nat.reduceEqDiff, Nat.reduceAdd, List.append_nil]
  simp only [Tryz.fn75_r1, h1, AmR, kp, exe, Arg.val, Env.at, lk, putd, ok1, Option.getD_some, if_true, if_false, reduceCtorEq, Nat.reduceEqDiff, resAll, resOf, List.map_cons, List.map_nil]

/-! ### Numbers of the program -/

theorem Tryz.digLoop (d s : List UInt8) (hd : d.length ≤ 1000000) (H : AH) (K : AX → St → Prop) (ks : List Fr) (L : ACode) (hL : L = .loop (some [0, 5, 22, 23]) Tryz.fn57_l0)
    (hk : d.all dig8 = true → ∀ e, e.at 0 = .str s → Nx Tryz.call K ks e H) (hr : d.all dig8 = false → ∀ e, e.at 2 = .int .i64 0 → e.at 3 = .bool false → e.at 4 = .bool false → Rt Tryz.call K ks e H) : ∀ (n i : Nat), n + i = d.length → (d.take i).all dig8 = true →
    W Tryz.call K (.block 0 :: ks) [(0, .str s), (5, .str d), (22, .int .i64 d.length), (23, .int .i64 i)] H L := by
  intro n
  induction n with
  | zero =>
    intro i hi hdi
    refine W_loopN hL ?_
    have hi' : i = d.length := by omega
    subst hi'
    rw [List.take_length] at hdi
    simp only [Tryz.fn57_l0, Tryz.fn57_r6, AmR, kp, pushA, exe, Arg.val, Env.at, lk, putd, okM, abin, Option.getD_some, if_true, if_false, reduceCtorEq, Nat.reduceEqDiff]
    exact ⟨fun h => absurd h (by omega), fun _ => hk hdi _ rfl⟩
  | succ n ih =>
    intro i hi hdi
    refine W_loopN hL ?_
    obtain ⟨c, hc⟩ : ∃ c, d[i]? = some c := ⟨_, List.getElem?_eq_getElem (by omega)⟩
    have h0 : (0 : Int) ≤ (i : Int) := by omega
    have h1 : ((i : Int) < (d.length : Int)) = True := eq_true (by omega)
    have hw : IntKind.i64.wrap ((i : Int) + 1) = ((i + 1 : Nat) : Int) := by rw [IntWalk.i64_in _ (by omega)]; omega
    have hmem : c ∈ d := List.mem_of_getElem? hc
    have bad : dig8 c = false → d.all dig8 = false := fun hf => by
      rw [List.all_eq_false]
      exact ⟨c, hmem, by rw [hf]; decide⟩
    simp only [Tryz.fn57_l0, Tryz.fn57_r6, h1, AmR, kp, pushA, exe, Arg.val, Env.at, lk, putd, okM, abin, Option.getD_some, if_true, if_false, reduceCtorEq, Nat.reduceEqDiff, decide_true]
    by_cases hc1 : (c.toNat : Int) < 48
    · have d1 : decide ((c.toNat : Int) < 48) = true := decide_eq_true hc1
      have hf : dig8 c = false := decide_eq_false (by omega)
      simp only [Tryz.fn57_r7, Tryz.fn57_r8, Tryz.fn57_r9, h0, Int.toNat_natCast, hc, d1, AmR, kp, pushA, exe, Arg.val, Env.at, lk, putd, ok1, okM, abin, Option.getD_some, if_true, if_false, reduceCtorEq, Nat.reduceEqDiff, Option.map_some]
      exact hr (bad hf) _ rfl rfl rfl
    · have d1 : decide ((c.toNat : Int) < 48) = false := decide_eq_false hc1
      by_cases hc2 : (c.toNat : Int) > 57
      · have d2 : decide ((c.toNat : Int) > 57) = true := decide_eq_true hc2
        have hf : dig8 c = false := decide_eq_false (by omega)
        simp only [Tryz.fn57_r7, Tryz.fn57_r8, Tryz.fn57_r9, h0, Int.toNat_natCast, hc, d1, d2, AmR, kp, pushA, exe, Arg.val, Env.at, lk, putd, ok1, okM, abin, Option.getD_some, if_true, if_false, reduceCtorEq, Nat.reduceEqDiff, Bool.false_eq_true, Option.map_some]
        exact hr (bad hf) _ rfl rfl rfl
      · have d2 : decide ((c.toNat : Int) > 57) = false := decide_eq_false hc2
        have hf : dig8 c = true := decide_eq_true (by omega)
        have hd' : (d.take (i + 1)).all dig8 = true := by rw [List.take_add_one, hc, Option.toList_some, List.all_append, hdi]; simp [hf]
        simp only [Tryz.fn57_r7, Tryz.fn57_r8, h0, Int.toNat_natCast, hc, d1, d2, AmR, kp, pushA, exe, Arg.val, Env.at, lk, putd, ok1, okM, abin, Option.getD_some, if_true, if_false, reduceCtorEq, Nat.reduceEqDiff, Bool.false_eq_true, Option.map_some]
        simp only [Tryz.fn57_r10, hw, AmR, kp, exe, Arg.val, Env.at, lk, putd, ok1, okM, abin, Option.getD_some, if_true, if_false, reduceCtorEq, Nat.reduceEqDiff]
        exact ih (i + 1) (by omega) hd'

def NumZP (s : List UInt8) (H : AH) (vs : List AV) (H' : AH) : Prop := H' = H ∧ ∃ (n : Int) (is fits : Bool), vs = [.int .i64 n, .bool is, .bool fits] ∧ is = (numZ s).isSome ∧ ∀ v, numZ s = some v → fits = fitsZ v ∧ (fits = true → n = v)

theorem NumZP.bad {s : List UInt8} {H : AH} (hn : numZ s = none) (H1 : AH) : Back 8 H (NumZP s H) [.int .i64 0, .bool false, .bool false] H1 := by
  refine back_flat rfl ⟨rfl, 0, false, false, rfl, by rw [hn]; rfl, fun v hv => ?_⟩
  rw [hn] at hv; cases hv

theorem Tryz.num (s : List UInt8) (hs : s.length ≤ 1000000) (H : AH) : ∃ (n : Int) (is fits : Bool), Tryz.call 57 [.str s] H = some (.ok (.tup [.int .i64 n, .bool is, .bool fits]), H) ∧ is = (numZ s).isSome ∧ ∀ v, numZ s = some v → fits = fitsZ v ∧ (fits = true → n = v) := by
  suffices h : W Tryz.call (endK Tryz.fn57.res (Back 8 H (NumZP s H))) [] [(0, .str s)] ⟨[], 8, 8⟩ Tryz.fn57.code by
    obtain ⟨vs, H', ⟨rfl, n, is, fits, rfl, hr⟩, hc⟩ := ecall_vE 8 [] (lk Tryz.ext) (lk Tryz.tab) (f := 57) (fn := Tryz.fn57) (args := [.str s]) (H := H) rfl rfl rfl (views_flat rfl (views_nil H 8)) h
    exact ⟨n, is, fits, hc, hr⟩
  have ht := Tryz.trimMinus s hs
  have hml : (magS s).length ≤ 1000000 := by
    unfold magS
    split
    · rw [List.length_tail]; omega
    · exact hs
  have hat : ∀ H v, numZ s = some v → fitsZ v = true → Tryz.call 76 [.str s] H = some (.ok (.tup [.int .i64 v, .nili]), H) := fun H v hv hf => by
    refine ecall_ext 8 [] _ _ (g := gAtoi2 140) rfl _ H ?_
    simp only [gAtoi2, (atoi_num hv).1 hf]
    rw [if_pos (by omega)]; rfl
  have hat2 : ∀ H v, numZ s = some v → fitsZ v = false → Tryz.call 76 [.str s] H = some (.ok (.tup [.int .i64 (Lib.atoiSat s), .iface 140 .undef]), H) := fun H v hv hf => by
    refine ecall_ext 8 [] _ _ (g := gAtoi2 140) rfl _ H ?_
    simp only [gAtoi2, (atoi_num hv).2 hf]
    rw [if_pos (by omega)]; rfl
  by_cases hd0 : magS s = []
  · rw [hd0] at ht
    simp only [Tryz.fn57, Tryz.fn57_r0, AmR, kp, exe, Arg.val, Env.at, lk, putd, ok1, Option.getD_some, if_true, if_false, reduceCtorEq]
    simp only [Tryz.fn57_r1, ht, AmR, kp, exe, Arg.val, Env.at, lk, putd, ok1, Option.getD_some, if_true, if_false, reduceCtorEq, Nat.reduceEqDiff, List.map_cons, List.map_nil]
    simp only [Tryz.fn57_r2, Tryz.fn57_r3, Tryz.fn57_r4, beq_self_eq_true, AmR, kp, pushA, exe, Arg.val, Env.at, lk, putd, ok1, okM, abin, Option.getD_some, if_true, if_false, reduceCtorEq, Nat.reduceEqDiff, resAll, resOf, Option.some.injEq, exists_eq_left']
    exact NumZP.bad (numZ_bad (.inl hd0)) _
  · obtain ⟨c, hc⟩ : ∃ c, (magS s)[0]? = some c := ⟨_, List.getElem?_eq_getElem (List.length_pos_iff.2 hd0)⟩
    have hh : (magS s).head? = some c := by rw [List.head?_eq_getElem?]; exact hc
    have hb : (magS s == ([] : List UInt8)) = false := by rw [beq_eq_false_iff_ne]; exact hd0
    have h0 : (0 : Int) ≤ 0 := Int.le_refl 0
    have body : ¬ (magS s = [] ∨ ((magS s).head? = some 48 ∧ s ≠ [48])) → ∀ (ks : List Fr) (e : Env), ks = [.code (.trim [0, 5, 22, 23]), .code (.block 0
   (.loop (some [0, 5, 22, 23])
    Tryz.fn57_l0)), .code (.seq (.seq (.reg Tryz.fn57_r11)
  (.trim [2, 7]))
 (.seq (.seq (.regd Tryz.fn57_r12)
  (.trim [2, 3, 4]))
 .ret))] → e.at 0 = .str s → e.at 5 = .str (magS s) → Rg Tryz.call (endK [.tmp 2, .tmp 3, .tmp 4] (Back 8 H (NumZP s H))) ks e ⟨[], 8, 8⟩ Tryz.fn57_r5 := fun hgood ks e hks he0 he5 => by
      subst hks
      simp only [Env.at] at he0 he5
      simp only [Tryz.fn57_r5, he0, he5, AmR, kp, exe, Arg.val, Env.at, lk, putd, ok1, Option.getD_some, if_true, if_false, reduceCtorEq, Nat.reduceEqDiff]
      refine Tryz.digLoop (magS s) s hml _ _ _ _ rfl ?_ ?_ (magS s).length 0 (by omega) (by simp)
      · intro hd e he0
        have hn := numZ_good hgood hd
        simp only [Env.at] at he0
        generalize hv : (if s.head? = some 45 then -(val (magS s) : Int) else val (magS s)) = v at hn
        cases hf : fitsZ v with
        | true =>
          have ha := fun H => hat H v hn hf
          simp only [Tryz.fn57_r11, he0, ha, AmR, kp, exe, Arg.val, Env.at, lk, putd, ok1, okM, Option.getD_some, if_true, if_false, List.getElem?_cons_zero, List.getElem?_cons_succ, Nat.reduceEqDiff, List.map_cons, List.map_nil]
          refine W_drawn' (by kernel_rfl) ?_
          simp only [Tryz.fn57_r12, AmR, kp, exe, Arg.val, Env.at, lk, putd, ok1, okM, Option.getD_some, if_true, if_false, Bool.not_false, Nat.reduceEqDiff, Nat.reduceAdd, resAll, resOf, Option.some.injEq, true_and, List.append_nil, visH, List.flatMap_nil, Option.map_some, exists_eq_left', aeqv, aeq, Bool.true_bne]
          refine back_flat rfl ⟨rfl, v, true, true, rfl, by rw [hn]; rfl, fun v' h => ?_⟩
          rw [hn, Option.some.injEq] at h
          subst h
          exact ⟨hf.symm, fun _ => rfl⟩
        | false =>
          have ha := fun H => hat2 H v hn hf
          simp only [Tryz.fn57_r11, he0, ha, AmR, kp, exe, Arg.val, Env.at, lk, putd, ok1, okM, Option.getD_some, if_true, if_false, List.getElem?_cons_zero, List.getElem?_cons_succ, Nat.reduceEqDiff, List.map_cons, List.map_nil]
          refine W_drawn' (by kernel_rfl) ?_
          simp only [Tryz.fn57_r12, AmR, kp, exe, Arg.val, Env.at, lk, putd, ok1, okM, Option.getD_some, if_true, if_false, Nat.reduceEqDiff, Nat.reduceAdd, resAll, resOf, Option.some.injEq, true_and, List.append_nil, visH, List.flatMap_nil, Option.map_some, exists_eq_left', aeqv, aeq, bne_self_eq_false]
          refine back_flat rfl ⟨rfl, Lib.atoiSat s, true, false, rfl, by rw [hn]; rfl, fun v' h => ?_⟩
          rw [hn, Option.some.injEq] at h
          subst h
          exact ⟨hf.symm, fun h => by cases h⟩
      · intro hd e h2 h3 h4
        simp only [Rt_code, Rt_nil]
        rw [endK_ret]
        exact ⟨_, by simp only [resAll, resOf, h2, h3, h4], NumZP.bad (numZ_letter hd) _⟩
    by_cases h48 : c = 48
    · have e48 : ((c.toNat : Int) == 48) = true := by rw [h48]; rfl
      simp only [Tryz.fn57, Tryz.fn57_r0, AmR, kp, exe, Arg.val, Env.at, lk, putd, ok1, Option.getD_some, if_true, if_false, reduceCtorEq]
      simp only [Tryz.fn57_r1, ht, AmR, kp, exe, Arg.val, Env.at, lk, putd, ok1, Option.getD_some, if_true, if_false, reduceCtorEq, Nat.reduceEqDiff, List.map_cons, List.map_nil]
      simp only [Tryz.fn57_r2, Tryz.fn57_r3, Tryz.fn57_r4, hb, h0, Int.toNat_zero, hc, e48, AmR, Cd_nbeq, kp, pushA, exe, Arg.val, Env.at, lk, putd, ok1, okM, abin, Option.getD_some, if_true, if_false, reduceCtorEq, Nat.reduceEqDiff, Bool.false_eq_true, resAll, resOf, Option.some.injEq, Option.map_some, exists_eq_left']
      refine ⟨fun hs48 => body (by rintro (h | ⟨_, h⟩); exact hd0 h; exact h hs48) _ _ rfl rfl rfl, fun hs48 => NumZP.bad (numZ_bad (.inr ⟨by rw [hh, h48], hs48⟩)) _⟩
    · have e48 : ((c.toNat : Int) == 48) = false := by
        rw [beq_eq_false_iff_ne]
        intro h
        exact h48 (UInt8.toNat_inj.1 (by show c.toNat = 48; omega))
      simp only [Tryz.fn57, Tryz.fn57_r0, AmR, kp, exe, Arg.val, Env.at, lk, putd, ok1, Option.getD_some, if_true, if_false, reduceCtorEq]
      simp only [Tryz.fn57_r1, ht, AmR, kp, exe, Arg.val, Env.at, lk, putd, ok1, Option.getD_some, if_true, if_false, reduceCtorEq, Nat.reduceEqDiff, List.map_cons, List.map_nil]
      simp only [Tryz.fn57_r2, Tryz.fn57_r3, hb, h0, Int.toNat_zero, hc, e48, AmR, kp, pushA, exe, Arg.val, Env.at, lk, putd, ok1, okM, abin, Option.getD_some, if_true, if_false, reduceCtorEq, Nat.reduceEqDiff, Bool.false_eq_true, Option.map_some]
      exact body (by rintro (h | ⟨h, _⟩); exact hd0 h; rw [hh] at h; exact h48 (Option.some.inj h)) _ _ rfl rfl rfl

end Go.Am

/- The words and the numbers of a line of an event, continued. Conditions: those that each theorem names. -/
namespace Go.Am

theorem drop_at {α : Type} {l : List α} {i : Nat} {x : α} (h : l[i]? = some x) : l.drop i = x :: l.drop (i + 1) := by
  obtain ⟨hi, rfl⟩ := List.getElem?_eq_some_iff.1 h
  exact List.drop_eq_getElem_cons hi

/-- What Index gives. -/
def idxZ (o : Option Nat) : Int := match o with
  | some q => q
  | none => -1

theorem Tryz.indexLoop (w : List UInt8) (xs : List (List UInt8)) (hx : xs.length ≤ 1000000) (H : AH) (q : Nat) (b : Blk) (cp : Option Nat) (hb : H.get q = some b) (hbc : b.cells = xs.map .str) (K : AX → St → Prop) (ks : List Fr) (L : ACode) (hL : L = .loop (some [0, 1, 7, 8]) Tryz.fn55_l0) (r : Option Nat)
    (hk : r = none → ∀ e, Nx Tryz.call K ks e H) (hr : ∀ j, r = some j → ∀ e, e.at 4 = .int .i64 (j : Int) → Rt Tryz.call K ks e H) : ∀ (n i : Nat), n + i = xs.length → idx w (xs.drop i) i = r →
    W Tryz.call K (.block 0 :: ks) [(0, .sl q 0 1 xs.length cp), (1, .str w), (7, .int .i64 xs.length), (8, .int .i64 i)] H L := by
  intro n
  induction n with
  | zero =>
    intro i hi hrr
    refine W_loopN hL ?_
    have hi' : i = xs.length := by omega
    subst hi'
    rw [List.drop_length] at hrr
    simp only [Tryz.fn55_l0, Tryz.fn55_r2, AmR, kp, pushA, exe, Arg.val, Env.at, lk, putd, okM, abin, Option.getD_some, if_true, if_false, reduceCtorEq, Nat.reduceEqDiff]
    exact ⟨fun h => absurd h (by omega), fun _ => hk hrr.symm _⟩
  | succ n ih =>
    intro i hi hrr
    refine W_loopN hL ?_
    obtain ⟨x, hxi⟩ : ∃ x, xs[i]? = some x := ⟨_, List.getElem?_eq_getElem (by omega)⟩
    have h0 : (0 : Int) ≤ (i : Int) := by omega
    have h1 : ((i : Int) < (xs.length : Int)) = True := eq_true (by omega)
    have hw : IntKind.i64.wrap ((i : Int) + 1) = ((i + 1 : Nat) : Int) := by rw [IntWalk.i64_in _ (by omega)]; omega
    have e0 : b.cells[i]? = some (.str x) := by rw [hbc, List.getElem?_map, hxi]; rfl
    rw [drop_at hxi, idx] at hrr
    simp only [Tryz.fn55_l0, Tryz.fn55_r2, h1, AmR, kp, pushA, exe, Arg.val, Env.at, lk, putd, okM, abin, Option.getD_some, if_true, if_false, reduceCtorEq, Nat.reduceEqDiff, decide_true]
    simp only [Tryz.fn55_r3, AmR, kp, exe, Arg.val, Env.at, lk, putd, ok1, Option.getD_some, if_true, if_false, reduceCtorEq, Nat.reduceEqDiff]
    simp only [Tryz.fn55_r4, h0, h1, Int.toNat_natCast, and_self, hb, e0, Nat.zero_add, Nat.mul_one, AmR, Cd_beq, kp, pushA, exe, Arg.val, Env.at, lk, putd, ok1, okM, abin, Option.getD_some, if_true, if_false, reduceCtorEq, Nat.reduceEqDiff]
    refine ⟨fun h => ?_, fun h => ?_⟩
    · rw [if_pos h.symm] at hrr
      simp only [Tryz.fn55_r5, AmR, kp, exe, Arg.val, Env.at, lk, putd, ok1, Option.getD_some, if_true, if_false, reduceCtorEq, Nat.reduceEqDiff]
      exact hr i hrr.symm _ rfl
    · rw [if_neg (fun e => h e.symm)] at hrr
      simp only [Tryz.fn55_r6, hw, AmR, kp, exe, Arg.val, Env.at, lk, putd, ok1, okM, abin, Option.getD_some, if_true, if_false, reduceCtorEq, Nat.reduceEqDiff]
      exact ih (i + 1) (by omega) hrr

theorem Tryz.index (w : List UInt8) (xs : List (List UInt8)) (hx : xs.length ≤ 1000000) (H : AH) (q : Nat) (b : Blk) (cp : Option Nat) (hb : H.get q = some b) (hbc : b.cells = xs.map .str) : Tryz.call 55 [.sl q 0 1 xs.length cp, .str w] H = some (.ok (.int .i64 (idxZ (idx w xs 0))), H) := by
  have hv : SliceV H 1 (.sl q 0 1 xs.length cp) xs.length (xs.map .str) := by
    have := SliceV.sl (H := H) (z := 1) (i := q) (o := 0) (n := xs.length) (c := cp) hb (by rw [hbc, List.length_map]; omega)
    rw [List.drop_zero, hbc, List.take_of_length_le (by rw [List.length_map]; omega)] at this
    exact this
  have hf : (xs.map AV.str).all flat1 = true := by simp [flat1]
  have h1 : 0 + xs.length * 1 ≤ b.cells.length := by rw [hbc, List.length_map]; omega
  refine ecall_flat 8 [] _ _ (out := [.int .i64 (idxZ (idx w xs 0))]) rfl rfl rfl (viewS hb h1 (by rw [List.drop_zero, hbc, List.take_of_length_le (by rw [List.length_map]; omega)]) hf (views_flat rfl (views_nil H _))) rfl ?_
  show W Tryz.call _ _ _ _ _
  generalize hB : (⟨xs.map .str, b.ro, b.ty, false, false⟩ : Blk) = B
  have hBc : B.cells = xs.map .str := by rw [← hB]
  simp only [Tryz.fn55, Tryz.fn55_r0, AmR, kp, exe, number, Arg.val, Env.at, lk, putd, ok1, Option.getD_some, if_true, if_false, reduceCtorEq, Nat.reduceEqDiff, Nat.reduceAdd, List.append_nil]
  simp only [Tryz.fn55_r1, AmR, kp, exe, Arg.val, Env.at, lk, putd, ok1, okM, Option.getD_some, if_true, if_false, reduceCtorEq, Nat.reduceEqDiff, Option.map_some, ↓exe_lenl, lenS_sl]
  refine Tryz.indexLoop w xs hx _ 8 B cp ?_ hBc _ _ _ rfl (idx w xs 0) ?_ ?_ xs.length 0 (by omega) (by rw [List.drop_zero])
  · simp [AH.get, lk]
  · intro hr e
    rw [hr]
    simp only [Tryz.fn55_r7, idxZ, AmR, kp, exe, Arg.val, Env.at, lk, putd, ok1, Option.getD_some, if_true, resAll, resOf, Int.reduceNeg]
  · intro j hr e h4
    rw [hr]
    simp only [Rt_code, Rt_nil, flatK_ret, resAll, resOf, h4, idxZ]

/-! ### Kinds of the specification -/

def kindZ (o : Option Nat) : Int := match o with
  | some q => (q : Int) + 1
  | none => 0

/-! ### Words of the specification -/

theorem bnds_loP {n m : Nat} {k : IntKind} {l : Int} (h0 : 0 ≤ l) (h1 : l ≤ (n : Int)) : bnds n m (some (.int k l)) none = some (l.toNat, n) := by
  have a1 : (0 : Int) ≤ l ∧ l ≤ (n : Int) := ⟨h0, h1⟩
  simp only [bnds, bnd, a1, and_self, if_true]
theorem bnds_hi {n m : Nat} {k : IntKind} {h : Int} (h0 : 0 ≤ h) (h1 : h ≤ (m : Int)) : bnds n m none (some (.int k h)) = some (0, h.toNat) := by
  have a1 : (0 : Int) ≤ h ∧ h ≤ (m : Int) := ⟨h0, h1⟩
  simp only [bnds, bnd, a1, and_self, if_true]

theorem take_not {s : List UInt8} {i : Nat} {c : UInt8} (h : s[i]? = some c) (hc : c ≠ 32) (hi : (32 : UInt8) ∉ s.take i) : (32 : UInt8) ∉ s.take (i + 1) := by
  rw [List.take_add_one, h, Option.toList_some, List.mem_append, List.mem_singleton]
  rintro (h1 | h1)
  · exact hi h1
  · exact hc h1.symm

def wordR (s : List UInt8) : List AV := match wordO s with
  | some (w, r) => [.str w, .str r, .bool true]
  | none => [.str [], .str [], .bool false]

end Go.Am

/- Numbers of the specification; hexadecimal digits. Conditions: those that each theorem names. -/
namespace Go.Am

def farN : Nat := 9007199254740992

/-- What the loop holds: the value of the digits, or more than is asked. -/
def NumInv (N v : Nat) : Prop := N ≤ 10 * farN + 9 ∧ (v ≤ farN → N = v) ∧ (farN < v → farN < N)

theorem Tryz.u8_sub48 {c : UInt8} (h : 48 ≤ c.toNat) : IntKind.u8.wrap ((c.toNat : Int) - 48) = ((c.toNat - 48 : Nat) : Int) := by
  have h1 : ∀ n : Fin 256, 48 ≤ n.val → IntKind.u8.wrap ((n.val : Int) - 48) = ((n.val - 48 : Nat) : Int) := by decide +kernel
  exact h1 ⟨c.toNat, c.toNat_lt⟩ h

/-- A number, or one beyond what is asked. -/
def clampZ (v : Int) : Int := if 9007199254740992 < v then 9007199254740993 else if v < -9007199254740992 then -9007199254740993 else v

def NumCP (s : List UInt8) (H : AH) (vs : List AV) (H' : AH) : Prop := H' = H ∧ ∃ (n : Int) (is : Bool), vs = [.int .i64 n, .bool is] ∧ is = (numZ s).isSome ∧ ∀ v, numZ s = some v → n = clampZ v

theorem NumCP.bad {s : List UInt8} {H : AH} (hn : numZ s = none) (H1 : AH) : Back 8 H (NumCP s H) [.int .i64 0, .bool false] H1 := by
  refine back_flat rfl ⟨rfl, 0, false, rfl, by rw [hn]; rfl, fun v hv => ?_⟩
  rw [hn] at hv; cases hv

end Go.Am

/- Quoted strings: what a sequence says; hexadecimal digits, sequences of the program. Conditions: those that each theorem names. -/
namespace Go.Am

/-- The value of a hexadecimal digit, or -1. -/
def hexI (n : Nat) : Int := if 48 ≤ n ∧ n ≤ 57 then (n : Int) - 48 else if 97 ≤ n ∧ n ≤ 102 then (n : Int) - 87 else -1
def hexZ (c : UInt8) : Int := hexI c.toNat

theorem Tryz.hexAll : (List.range 256).map (fun (n : Nat) (H : AH) => acall 8 [] (lk Tryz.ext) (lk Tryz.tab) 20 88 [.int .u8 (n : Int)] H) = (List.range 256).map (fun (n : Nat) (H : AH) => some (.ok (.int .i64 (hexI n)), H)) := by kernel_rfl
theorem Tryz.hex (c : UInt8) (H : AH) : Tryz.call 88 [.int .u8 c.toNat] H = some (.ok (.int .i64 (hexZ c)), H) :=
  ecall_of 8 [] _ _ (n := 20) (congrFun (List.map_inj_left.1 Tryz.hexAll c.toNat (List.mem_range.2 c.toNat_lt)) H)
theorem hexZ_lt (c : UInt8) : -1 ≤ hexZ c ∧ hexZ c ≤ 15 := by
  unfold hexZ hexI
  split
  · omega
  · split <;> omega

/-- The byte of two hexadecimal digits. -/
def escX : List UInt8 → Option (UInt8 × Nat)
  | a :: b :: _ => if hexZ a < 0 ∨ hexZ b < 0 then none else some (UInt8.ofNat (16 * hexZ a + hexZ b).toNat, 4)
  | _ => none
/-- The byte of a sequence, and its length. -/
def escO : List UInt8 → Option (UInt8 × Nat)
  | _ :: c :: t => if c = 34 ∨ c = 92 then some (c, 2) else if c = 110 then some (10, 2) else if c = 120 then escX t else none
  | _ => none

/-- The byte that a quoted string begins with, and its length there. -/
def stepU : List UInt8 → Option (UInt8 × Nat)
  | [] => none
  | c :: t => if plainB c.toNat = true then some (c, 1) else if c = 92 then escO (c :: t) else none

theorem stepU_cons (c : UInt8) (t : List UInt8) : stepU (c :: t) = if plainB c.toNat = true then some (c, 1) else if c = 92 then escO (c :: t) else none := rfl
theorem escO_two (x c : UInt8) (t : List UInt8) : escO (x :: c :: t) = if c = 34 ∨ c = 92 then some (c, 2) else if c = 110 then some (10, 2) else if c = 120 then escX t else none := rfl

theorem hexB_hex : ∀ n : Fin 16, hexZ (hexB n.val) = (n.val : Int) := by decide
theorem hexZ_hexB {n : Nat} (h : n < 16) : hexZ (hexB n) = (n : Int) := hexB_hex ⟨n, h⟩

theorem plain_not {c : UInt8} (h : plainB c.toNat = true) : c ≠ 34 ∧ c ≠ 92 := by
  constructor
  · rintro rfl; revert h; decide
  · rintro rfl; revert h; decide

theorem quote1_cases (x : UInt8) : (plainB x.toNat = true ∧ quote1 x = [x]) ∨ ((x = 34 ∨ x = 92) ∧ quote1 x = [92, x]) ∨ (x = 10 ∧ quote1 x = [92, 110]) ∨ quote1 x = [92, 120, hexB (x.toNat / 16), hexB (x.toNat % 16)] := by
  unfold quote1
  by_cases h1 : plainB x.toNat = true
  · rw [if_pos h1]; exact .inl ⟨h1, rfl⟩
  · rw [if_neg h1]
    by_cases h2 : x = 34 ∨ x = 92
    · rw [if_pos h2]; exact .inr (.inl ⟨h2, rfl⟩)
    · rw [if_neg h2]
      by_cases h3 : x = 10
      · rw [if_pos h3]; exact .inr (.inr (.inl ⟨h3, rfl⟩))
      · rw [if_neg h3]; exact .inr (.inr (.inr rfl))

theorem stepU_quote (x : UInt8) (t : List UInt8) : stepU (quote1 x ++ t) = some (x, (quote1 x).length) := by
  have h92 : ¬ plainB (92 : UInt8).toNat = true := by decide
  rcases quote1_cases x with ⟨h, e⟩ | ⟨h, e⟩ | ⟨h, e⟩ | e
  · rw [e]
    show stepU (x :: t) = _
    rw [stepU_cons, if_pos h]; rfl
  · rw [e]
    show stepU (92 :: x :: t) = _
    rw [stepU_cons, if_neg h92, if_pos rfl, escO_two, if_pos h]; rfl
  · rw [e]
    show stepU (92 :: 110 :: t) = _
    rw [stepU_cons, if_neg h92, if_pos rfl, escO_two, if_neg (by decide), if_pos rfl, h]; rfl
  · rw [e]
    show stepU (92 :: 120 :: hexB (x.toNat / 16) :: hexB (x.toNat % 16) :: t) = _
    have hx := x.toNat_lt
    have h1 := hexZ_hexB (n := x.toNat / 16) (by omega)
    have h2 := hexZ_hexB (n := x.toNat % 16) (by omega)
    rw [stepU_cons, if_neg h92, if_pos rfl, escO_two, if_neg (by decide), if_neg (by decide), if_pos rfl, escX, h1, h2, if_neg (by omega)]
    have e1 : (16 * ((x.toNat / 16 : Nat) : Int) + ((x.toNat % 16 : Nat) : Int)).toNat = x.toNat := by omega
    rw [e1, UInt8.ofNat_toNat]; rfl

theorem quote1_pos (x : UInt8) : 0 < (quote1 x).length := by
  rcases quote1_cases x with ⟨h, e⟩ | ⟨h, e⟩ | ⟨h, e⟩ | e <;> rw [e] <;> simp
theorem quote1_head (x : UInt8) : (quote1 x).head? ≠ some 34 := by
  rcases quote1_cases x with ⟨h, e⟩ | ⟨h, e⟩ | ⟨h, e⟩ | e <;> rw [e]
  · intro h2; rw [List.head?_cons, Option.some.injEq] at h2; exact (plain_not h).1 h2
  all_goals (intro h2; rw [List.head?_cons, Option.some.injEq] at h2; revert h2; decide)

theorem escX_len {s : List UInt8} {c : UInt8} {n : Nat} (h : escX s = some (c, n)) : n = 4 ∧ 2 ≤ s.length := by
  cases s with
  | nil => cases h
  | cons a s =>
    cases s with
    | nil => cases h
    | cons b s =>
      rw [escX] at h
      split at h
      · cases h
      · simp only [Option.some.injEq, Prod.mk.injEq] at h
        exact ⟨h.2.symm, by simp⟩

theorem escO_len {s : List UInt8} {c : UInt8} {n : Nat} (h : escO s = some (c, n)) : 1 ≤ n ∧ n ≤ s.length := by
  cases s with
  | nil => cases h
  | cons a s =>
    cases s with
    | nil => cases h
    | cons b s =>
      rw [escO_two] at h
      simp only [List.length_cons]
      split at h
      · simp only [Option.some.injEq, Prod.mk.injEq] at h; omega
      · split at h
        · simp only [Option.some.injEq, Prod.mk.injEq] at h; omega
        · split at h
          · have := escX_len h; omega
          · cases h

theorem stepU_len {s : List UInt8} {c : UInt8} {n : Nat} (h : stepU s = some (c, n)) : 1 ≤ n ∧ n ≤ s.length := by
  cases s with
  | nil => cases h
  | cons a s =>
    rw [stepU_cons] at h
    split at h
    · simp only [Option.some.injEq, Prod.mk.injEq] at h; simp only [List.length_cons]; omega
    · split at h
      · exact escO_len h
      · cases h

/-- What escape gives. -/
def escR (s : List UInt8) : List AV := match escO s with
  | some (c, n) => [.int .u8 c.toNat, .int .i64 n]
  | none => [.int .u8 0, .int .i64 0]

theorem u8_small {n : Int} (h0 : 0 ≤ n) (h1 : n < 256) : IntKind.u8.wrap n = n := by
  have : ∀ m : Fin 256, IntKind.u8.wrap (m.val : Int) = (m.val : Int) := by decide +kernel
  have h2 := this ⟨n.toNat, by omega⟩
  dsimp only at h2
  rw [show ((n.toNat : Nat) : Int) = n by omega] at h2
  exact h2

theorem Tryz.escape (s : List UInt8) (hs : s.length ≤ 1000000) (H : AH) : Tryz.call 74 [.str s] H = some (.ok (.tup (escR s)), H) := by
  have hp : pack (escR s) = .tup (escR s) := by unfold escR; split <;> rfl
  rw [← hp]
  refine ecall_flat 8 [] _ _ (out := escR s) rfl rfl rfl (views_flat rfl (views_nil H 8)) (by unfold escR; split <;> rfl) ?_
  show W Tryz.call _ _ _ _ _
  simp only [Tryz.fn74, Tryz.fn74_r0, AmR, kp, exe, number, Arg.val, Env.at, lk, putd, ok1, Option.getD_some, if_true, if_false, reduceCtorEq, List.append_nil]
  by_cases hl : s.length < 2
  · have hr : escR s = [.int .u8 0, .int .i64 0] := by
      cases s with
      | nil => rfl
      | cons a s =>
        cases s with
        | nil => rfl
        | cons b s => simp only [List.length_cons] at hl; omega
    have d2 : decide ((s.length : Int) < 2) = true := decide_eq_true (by omega)
    rw [hr]
    simp only [Tryz.fn74_r1, Tryz.fn74_r2, d2, AmR, kp, pushA, exe, Arg.val, Env.at, lk, putd, ok1, okM, abin, Option.getD_some, if_true, if_false, reduceCtorEq, Nat.reduceEqDiff, resAll, resOf]
  · obtain ⟨x, c, t, rfl⟩ : ∃ x c t, s = x :: c :: t := by
      cases s with
      | nil => simp at hl
      | cons a s =>
        cases s with
        | nil => simp at hl
        | cons b s => exact ⟨a, b, s, rfl⟩
    have h01 : (0 : Int) ≤ 1 := by decide
    have h02 : (0 : Int) ≤ 2 := by decide
    have h03 : (0 : Int) ≤ 3 := by decide
    have t1 : (1 : Int).toNat = 1 := rfl
    have t2 : (2 : Int).toNat = 2 := rfl
    have t3 : (3 : Int).toNat = 3 := rfl
    have hc : (x :: c :: t)[1]? = some c := rfl
    have four : ¬ ((x :: c :: t).length : Int) < 4 → ∃ a b, (x :: c :: t)[2]? = some a ∧ (x :: c :: t)[3]? = some b ∧ escX t = if hexZ a < 0 ∨ hexZ b < 0 then none else some (UInt8.ofNat (16 * hexZ a + hexZ b).toNat, 4) := fun h => by
      cases t with
      | nil => simp at h
      | cons a t =>
        cases t with
        | nil => simp at h
        | cons b t => exact ⟨a, b, rfl, rfl, rfl⟩
    have tiny : ((x :: c :: t).length : Int) < 4 → escX t = none := fun h => by
      cases t with
      | nil => rfl
      | cons a t =>
        cases t with
        | nil => rfl
        | cons b t => simp only [List.length_cons] at h; omega
    have hne : ∀ k : UInt8, c ≠ k → ((c.toNat : Int) == (k.toNat : Int)) = false := fun k h => by
      rw [beq_eq_false_iff_ne]
      intro e
      exact h (UInt8.toNat_inj.1 (by omega))
    have e34 : c ≠ 34 → ((c.toNat : Int) == 34) = false := hne 34
    have e92 : c ≠ 92 → ((c.toNat : Int) == 92) = false := hne 92
    have e110 : c ≠ 110 → ((c.toNat : Int) == 110) = false := hne 110
    have e120 : c ≠ 120 → ((c.toNat : Int) == 120) = false := hne 120
    have heq : ∀ k : UInt8, c = k → ((c.toNat : Int) == (k.toNat : Int)) = true := fun k h => by rw [h]; exact beq_self_eq_true _
    have q34 : c = 34 → ((c.toNat : Int) == 34) = true := heq 34
    have q92 : c = 92 → ((c.toNat : Int) == 92) = true := heq 92
    have q110 : c = 110 → ((c.toNat : Int) == 110) = true := heq 110
    have q120 : c = 120 → ((c.toNat : Int) == 120) = true := heq 120
    have hhex := Tryz.hex
    unfold escR
    rw [escO_two]
    have d2 : decide (((x :: c :: t).length : Int) < 2) = false := decide_eq_false (by omega)
    generalize hX : escX t = X at *
    generalize (x :: c :: t) = s at *
    simp only [Tryz.fn74_r1, d2, AmR, kp, pushA, exe, Arg.val, Env.at, lk, putd, ok1, okM, abin, Option.getD_some, if_true, if_false, reduceCtorEq, Nat.reduceEqDiff]
    simp only [Tryz.fn74_r3, h01, t1, hc, AmR, kp, exe, Arg.val, Env.at, lk, putd, ok1, okM, Option.getD_some, if_true, if_false, reduceCtorEq, Nat.reduceEqDiff, Option.map_some]
    by_cases c34 : c = 34
    · rw [if_pos (.inl c34)]
      have q := q34 c34
      simp only [Tryz.fn74_r4, q, AmR, kp, pushA, exe, Arg.val, Env.at, lk, putd, ok1, okM, abin, Option.getD_some, if_true, if_false, reduceCtorEq, Nat.reduceEqDiff, Int.cast_ofNat_Int]
      simp only [Tryz.fn74_r6, h01, t1, hc, AmR, kp, exe, Arg.val, Env.at, lk, putd, ok1, okM, Option.getD_some, if_true, if_false, reduceCtorEq, Nat.reduceEqDiff, resAll, resOf, Option.map_some]
    · have n34 := e34 c34
      by_cases c92 : c = 92
      · rw [if_pos (.inr c92)]
        have q := q92 c92
        simp only [Tryz.fn74_r4, Tryz.fn74_r5, n34, q, AmR, kp, pushA, exe, Arg.val, Env.at, lk, putd, ok1, okM, abin, Option.getD_some, if_true, if_false, reduceCtorEq, Nat.reduceEqDiff, Int.cast_ofNat_Int]
        simp only [Tryz.fn74_r6, h01, t1, hc, AmR, kp, exe, Arg.val, Env.at, lk, putd, ok1, okM, Option.getD_some, if_true, if_false, reduceCtorEq, Nat.reduceEqDiff, resAll, resOf, Option.map_some]
      · have n92 := e92 c92
        rw [if_neg (by rintro (h | h); exact c34 h; exact c92 h)]
        by_cases c110 : c = 110
        · rw [if_pos c110]
          have q := q110 c110
          have v10 : ((10 : UInt8).toNat : Int) = 10 := rfl
          simp only [Tryz.fn74_r4, Tryz.fn74_r5, n34, n92, AmR, kp, pushA, exe, Arg.val, Env.at, lk, putd, ok1, okM, abin, Option.getD_some, if_true, if_false, reduceCtorEq, Nat.reduceEqDiff, Int.cast_ofNat_Int]
          simp only [Tryz.fn74_r7, Tryz.fn74_r8, q, v10, AmR, kp, pushA, exe, Arg.val, Env.at, lk, putd, ok1, okM, abin, Option.getD_some, if_true, if_false, reduceCtorEq, Nat.reduceEqDiff, resAll, resOf]
        · have n110 := e110 c110
          rw [if_neg c110]
          by_cases c120 : c = 120
          · rw [if_pos c120]
            have q := q120 c120
            simp only [Tryz.fn74_r4, Tryz.fn74_r5, n34, n92, AmR, kp, pushA, exe, Arg.val, Env.at, lk, putd, ok1, okM, abin, Option.getD_some, if_true, if_false, reduceCtorEq, Nat.reduceEqDiff]
            simp only [Tryz.fn74_r7, Tryz.fn74_r9, n110, q, AmR, kp, pushA, exe, Arg.val, Env.at, lk, putd, ok1, okM, abin, Option.getD_some, if_true, if_false, reduceCtorEq, Nat.reduceEqDiff]
            by_cases h4 : (s.length : Int) < 4
            · have d4 : decide ((s.length : Int) < 4) = true := decide_eq_true h4
              rw [tiny h4]
              simp only [Tryz.fn74_r10, Tryz.fn74_r11, Tryz.fn74_r12, d4, AmR, kp, pushA, exe, Arg.val, Env.at, lk, putd, ok1, okM, abin, Option.getD_some, if_true, if_false, reduceCtorEq, Nat.reduceEqDiff, resAll, resOf]
            · have d4 : decide ((s.length : Int) < 4) = false := decide_eq_false h4
              obtain ⟨a, b, ha, hb, hx⟩ := four h4
              rw [hx]
              have la := hexZ_lt a
              have lb := hexZ_lt b
              by_cases ca : hexZ a < 0
              · have da : decide (hexZ a < 0) = true := decide_eq_true ca
                rw [if_pos (.inl ca)]
                simp only [Tryz.fn74_r10, Tryz.fn74_r11, Tryz.fn74_r12, d4, h02, t2, ha, hhex, da, AmR, kp, pushA, exe, Arg.val, Env.at, lk, putd, ok1, okM, abin, Option.getD_some, if_true, if_false, reduceCtorEq, Nat.reduceEqDiff, Bool.false_eq_true, resAll, resOf, List.map_cons, List.map_nil, Option.map_some]
              · have da : decide (hexZ a < 0) = false := decide_eq_false ca
                by_cases cb : hexZ b < 0
                · have db : decide (hexZ b < 0) = true := decide_eq_true cb
                  rw [if_pos (.inr cb)]
                  simp only [Tryz.fn74_r10, Tryz.fn74_r11, Tryz.fn74_r12, d4, h02, t2, h03, t3, ha, hb, hhex, da, db, AmR, kp, pushA, exe, Arg.val, Env.at, lk, putd, ok1, okM, abin, Option.getD_some, if_true, if_false, reduceCtorEq, Nat.reduceEqDiff, Bool.false_eq_true, resAll, resOf, List.map_cons, List.map_nil, Option.map_some]
                · have db : decide (hexZ b < 0) = false := decide_eq_false cb
                  rw [if_neg (by rintro (h | h); exact ca h; exact cb h)]
                  have w1 : IntKind.i64.wrap (16 * hexZ a) = 16 * hexZ a := IntWalk.i64_in _ (by omega)
                  have w2 : IntKind.i64.wrap (16 * hexZ a + hexZ b) = 16 * hexZ a + hexZ b := IntWalk.i64_in _ (by omega)
                  have w3 : IntKind.u8.wrap (16 * hexZ a + hexZ b) = 16 * hexZ a + hexZ b := u8_small (by omega) (by omega)
                  have w4 : ((UInt8.ofNat (16 * hexZ a + hexZ b).toNat).toNat : Int) = 16 * hexZ a + hexZ b := by
                    rw [UInt8.toNat_ofNat', Nat.mod_eq_of_lt (by omega)]; omega
                  simp only [Tryz.fn74_r10, Tryz.fn74_r11, d4, h02, t2, h03, t3, ha, hb, hhex, da, db, AmR, kp, pushA, exe, Arg.val, Env.at, lk, putd, ok1, okM, abin, Option.getD_some, if_true, if_false, reduceCtorEq, Nat.reduceEqDiff, Bool.false_eq_true, List.map_cons, List.map_nil, Option.map_some, Int.cast_ofNat_Int]
                  refine W_drawn' (by kernel_rfl) ?_
                  simp only [Tryz.fn74_r13, Tryz.fn74_r13a, h02, t2, h03, t3, ha, hb, hhex, w1, w2, w3, w4, AmR, kp, exe, Arg.val, Env.at, lk, putd, ok1, okM, abin, Option.getD_some, if_true, if_false, reduceCtorEq, Nat.reduceEqDiff, Nat.reduceAdd, resAll, resOf, and_true, List.append_nil, visH, List.flatMap_nil, List.map_cons, List.map_nil, Option.map_some]
          · have n120 := e120 c120
            rw [if_neg c120]
            simp only [Tryz.fn74_r4, Tryz.fn74_r5, n34, n92, AmR, kp, pushA, exe, Arg.val, Env.at, lk, putd, ok1, okM, abin, Option.getD_some, if_true, if_false, reduceCtorEq, Nat.reduceEqDiff]
            simp only [Tryz.fn74_r7, Tryz.fn74_r9, n110, n120, AmR, kp, pushA, exe, Arg.val, Env.at, lk, putd, ok1, okM, abin, Option.getD_some, if_true, if_false, reduceCtorEq, Nat.reduceEqDiff]
            simp only [Tryz.fn74_r14, AmR, kp, exe, Arg.val, Env.at, lk, putd, ok1, Option.getD_some, if_true, if_false, reduceCtorEq, Nat.reduceEqDiff, resAll, resOf]

end Go.Am

/- Unquote of the program. Conditions: those that each theorem names. -/
namespace Go.Am

/-- What has been read of s0, and what is left of it. -/
def UInv (s0 s out : List UInt8) : Prop := ∀ d : List UInt8, s0 = d.flatMap quote1 → ∃ d2, s = d2.flatMap quote1 ∧ d = out ++ d2

theorem UInv.step {s0 s out : List UInt8} {c : UInt8} {n : Nat} (h : UInv s0 s out) (hs : stepU s = some (c, n)) : UInv s0 (s.drop n) (out ++ [c]) := by
  intro d hd
  obtain ⟨d2, rfl, rfl⟩ := h d hd
  cases d2 with
  | nil => cases hs
  | cons x d3 =>
    rw [List.flatMap_cons, stepU_quote, Option.some.injEq, Prod.mk.injEq] at hs
    obtain ⟨rfl, rfl⟩ := hs
    exact ⟨d3, by rw [List.flatMap_cons, List.drop_left], by simp⟩
theorem UInv.fail {s0 s out : List UInt8} (h : UInv s0 s out) (hs : stepU s = none) (hne : s ≠ []) : ∀ d : List UInt8, s0 ≠ d.flatMap quote1 := by
  intro d hd
  obtain ⟨d2, rfl, rfl⟩ := h d hd
  cases d2 with
  | nil => exact hne rfl
  | cons x d3 => rw [List.flatMap_cons, stepU_quote] at hs; cases hs

theorem Tryz.unqLoop (s0 : List UInt8) (hw : s0.length ≤ 1000000) (K : AX → St → Prop) (ks : List Fr) (L : ACode) (hL : L = .loop (some [0, 4]) Tryz.fn56_l0)
    (hk : ∀ H' v r e, OutV 8 H' 5 1 v r.length (ofBytes r) → r.length ≤ s0.length → (∀ d : List UInt8, s0 = d.flatMap quote1 → r = d) → e.at 4 = v → Nx Tryz.call K ks e H')
    (hr : (∀ d : List UInt8, s0 ≠ d.flatMap quote1) → ∀ e H', e.at 2 = .str [] → e.at 3 = .int .i64 4 → Rt Tryz.call K ks e H') : ∀ (n : Nat) (s out : List UInt8) (H : AH) (v : AV), s.length ≤ n → out.length + s.length ≤ s0.length → UInv s0 s out → OutV 8 H 5 1 v out.length (ofBytes out) →
    W Tryz.call K (.block 0 :: ks) [(0, .str s), (4, v)] H L := by
  intro n
  induction n with
  | zero =>
    intro s out H v hn hl hu ho
    refine W_loopN hL ?_
    have hs : s = [] := List.length_eq_zero_iff.1 (by omega)
    subst hs
    simp only [Tryz.fn56_l0, Tryz.fn56_r6, AmR, Cd_nbeq, kp, pushA, exe, Arg.val, Env.at, lk, putd, ok1, okM, abin, Option.getD_some, if_true, if_false, reduceCtorEq, Nat.reduceEqDiff]
    refine ⟨fun _ => hk H v out _ ho (by omega) (fun d hd => ?_) rfl, fun h => absurd trivial h⟩
    obtain ⟨d2, h1, rfl⟩ := hu d hd
    cases d2 with
    | nil => simp
    | cons x d3 =>
      have := congrArg List.length h1
      have hp := quote1_pos x
      rw [List.flatMap_cons, List.length_append, List.length_nil] at this
      omega
  | succ n ih =>
    intro s out H v hn hl hu ho
    refine W_loopN hL ?_
    cases hs : s with
    | nil =>
      subst hs
      simp only [Tryz.fn56_l0, Tryz.fn56_r6, AmR, Cd_nbeq, kp, pushA, exe, Arg.val, Env.at, lk, putd, ok1, okM, abin, Option.getD_some, if_true, if_false, reduceCtorEq, Nat.reduceEqDiff]
      refine ⟨fun _ => hk H v out _ ho (by omega) (fun d hd => ?_) rfl, fun h => absurd trivial h⟩
      obtain ⟨d2, h1, rfl⟩ := hu d hd
      cases d2 with
      | nil => simp
      | cons x d3 =>
        have := congrArg List.length h1
        have hp := quote1_pos x
        rw [List.flatMap_cons, List.length_append, List.length_nil] at this
        omega
    | cons c t =>
      have hst := stepU_cons c t
      rw [← hs] at hst ⊢
      have hne : s ≠ [] := by rw [hs]; simp
      have hb : (s == ([] : List UInt8)) = false := by rw [beq_eq_false_iff_ne]; exact hne
      have hc : s[0]? = some c := by rw [hs]; rfl
      have hl1 : 1 ≤ s.length := by rw [hs, List.length_cons]; omega
      have h00 : (0 : Int) ≤ 0 := Int.le_refl 0
      have hpl := Tryz.plain (c.toNat : Int)
      have hesc := Tryz.escape s (by omega)
      clear hs
      have app : ∀ (b : UInt8) (m : Nat), stepU s = some (b, m) → ∃ v' H', aapp (H.push 5 true [.int .u8 b.toNat]) 5 1 1 v [.int .u8 b.toNat] = some (.ok v', H') ∧ W Tryz.call K (.block 0 :: ks) [(0, .str (s.drop m)), (4, v')] H' L := fun b m hbm => by
        obtain ⟨v', H', e1, e2, e3, e4, e5⟩ := ho.snoc 1 (new := [.int .u8 b.toNat]) rfl (by omega)
        have hm := stepU_len hbm
        refine ⟨v', H', e1, ih (s.drop m) (out ++ [b]) H' v' ?_ ?_ (hu.step hbm) ?_⟩
        · rw [List.length_drop]; omega
        · rw [List.length_append, List.length_drop, List.length_singleton]; omega
        · rw [List.length_append, List.length_singleton, ← ofBytes_append]
          exact e2
      simp only [Tryz.fn56_l0, Tryz.fn56_r6, hne, AmR, Cd_nbeq, kp, pushA, exe, Arg.val, Env.at, lk, putd, ok1, okM, abin, Option.getD_some, if_true, if_false, reduceCtorEq, Nat.reduceEqDiff]
      refine ⟨fun h => h.elim, fun _ => ?_⟩
      simp only [Tryz.fn56_r7, h00, Int.toNat_zero, hc, i32_byte, hpl, Cd_bool, AmR, kp, pushA, exe, Arg.val, Env.at, lk, putd, ok1, okM, Option.getD_some, if_true, if_false, reduceCtorEq, Nat.reduceEqDiff, List.map_cons, List.map_nil, Option.map_some]
      refine ⟨fun hp => ?_, fun hp => ?_⟩
      · rw [if_pos hp] at hst
        obtain ⟨v', H', ha, hW⟩ := app c 1 hst
        have b1 : bnds s.length s.length (some (.int .i64 (1 : Int))) none = some (1, s.length) := by rw [bnds_loP (by omega) (by omega)]; rfl
        have htk : (s.drop 1).take (s.length - 1) = s.drop 1 := List.take_of_length_le (by rw [List.length_drop]; omega)
        refine W_drawn' (by kernel_rfl) ?_
        simp only [Tryz.fn56_r8, Tryz.fn56_r8a, h00, Int.toNat_zero, hc, b1, htk, takeFrom, cellsAt_new, AH.eta, ha, AmR, kp, exe, Arg.val, Env.at, lk, putd, AV.cells?, ok1, okM, Option.getD_some, if_true, if_false, reduceCtorEq, Nat.reduceEqDiff, Nat.reduceAdd, Nat.reduceMul, Bool.true_eq_false, and_true, true_and, List.nil_append, List.append_nil, visH, List.flatMap_nil, Nat.reduceLeDiff, List.map_cons, List.map_nil, putAt, solid, List.all_cons, List.all_nil, Bool.and_self, List.length_cons, List.length_nil, Option.map_some, Option.map_none, afill, rep, List.reduceReplicate, List.flatten_cons, List.flatten_nil, List.set_cons_zero]
        exact hW
      · rw [if_neg (by rw [hp]; decide)] at hst
        simp only [Tryz.fn56_r9, AmR, kp, exe, Arg.val, Env.at, lk, putd, ok1, Option.getD_some, if_true, if_false, reduceCtorEq, Nat.reduceEqDiff]
        simp only [Tryz.fn56_r10, h00, Int.toNat_zero, hc, AmR, Cd_beq, kp, pushA, exe, Arg.val, Env.at, lk, putd, ok1, okM, abin, Option.getD_some, if_true, if_false, reduceCtorEq, Nat.reduceEqDiff, Option.map_some]
        refine ⟨fun h92 => ?_, fun h92 => ?_⟩
        · have c92 : c = 92 := UInt8.toNat_inj.1 (by show c.toNat = 92; omega)
          rw [if_pos c92] at hst
          simp only [Tryz.fn56_r11, hesc, AmR, exe, Arg.val, Env.at, lk, putd, ok1, okM, Option.getD_some, if_true, if_false, reduceCtorEq, Nat.reduceEqDiff, List.map_cons, List.map_nil]
          unfold escR
          cases he : escO s with
          | none =>
            rw [he] at hst
            simp only [Tryz.fn56_r12, Tryz.fn56_r13, AmR, Cd_beq, kp, pushA, exe, Arg.val, Env.at, lk, putd, ok1, okM, abin, Option.getD_some, if_true, if_false, List.getElem?_cons_zero, List.getElem?_cons_succ, reduceCtorEq, Nat.reduceEqDiff]
            exact ⟨fun _ => hr (hu.fail hst hne) _ _ rfl rfl, fun h => absurd trivial h⟩
          | some p =>
            obtain ⟨b, m⟩ := p
            rw [he] at hst
            obtain ⟨v', H', ha, hW⟩ := app b m hst
            have hm := stepU_len hst
            have b1 : bnds s.length s.length (some (.int .i64 (m : Int))) none = some (m, s.length) := by rw [bnds_loP (by omega) (by omega)]; rfl
            have htk : (s.drop m).take (s.length - m) = s.drop m := List.take_of_length_le (by rw [List.length_drop]; omega)
            simp only [Tryz.fn56_r12, Tryz.fn56_r13, AmR, Cd_beq, kp, pushA, exe, Arg.val, Env.at, lk, putd, ok1, okM, abin, Option.getD_some, if_true, if_false, List.getElem?_cons_zero, List.getElem?_cons_succ, reduceCtorEq, Nat.reduceEqDiff]
            refine ⟨fun h => absurd h (by omega), fun _ => ?_⟩
            refine W_drawn' (by kernel_rfl) ?_
            simp only [Tryz.fn56_r14, Tryz.fn56_r14a, b1, htk, takeFrom, cellsAt_new, AH.eta, ha, AmR, kp, exe, Arg.val, Env.at, lk, putd, AV.cells?, ok1, Option.getD_some, if_true, if_false, reduceCtorEq, Nat.reduceEqDiff, Nat.reduceAdd, Nat.reduceMul, Bool.true_eq_false, and_true, true_and, List.nil_append, List.append_nil, visH, List.flatMap_nil, Nat.reduceLeDiff, List.map_cons, List.map_nil, putAt, solid, List.all_cons, List.all_nil, Bool.and_self, List.length_cons, List.length_nil, Option.map_some, Option.map_none, afill, rep, List.reduceReplicate, List.flatten_cons, List.flatten_nil, List.set_cons_zero]
            exact hW
        · have c92 : c ≠ 92 := by rintro rfl; simp at h92
          rw [if_neg c92] at hst
          simp only [Tryz.fn56_r12, Tryz.fn56_r13, AmR, Cd_beq, kp, pushA, exe, Arg.val, Env.at, lk, putd, ok1, okM, abin, Option.getD_some, if_true, if_false, reduceCtorEq, Nat.reduceEqDiff]
          exact ⟨fun _ => hr (hu.fail hst hne) _ _ rfl rfl, fun h => absurd trivial h⟩

theorem OutV.takeFrom {lo : Nat} {H : AH} {ty z : Nat} {v : AV} {m : Nat} {cells : List AV} (h : OutV lo H ty z v m cells) : (v = .nils ∧ cells = []) ∨ ∃ q c, v = .sl q 0 z m c ∧ H.cellsAt q 0 (m * z) = some cells := by
  obtain ⟨hz, h1, h2, h3⟩ := h
  rcases h3 with ⟨h4, _, h5⟩ | ⟨q, c, _, h5, h6⟩
  · exact .inl ⟨h4, h5⟩
  · exact .inr ⟨q, c, h5, h6.cells⟩

def UnqP (w : List UInt8) (H : AH) (vs : List AV) (H' : AH) : Prop := H' = H ∧ ∃ (r : List UInt8) (e : Int), vs = [.str r, .int .i64 e] ∧ r.length ≤ w.length ∧ ∀ d, w = quoteL d → r = d ∧ e = 0

theorem UnqP.bad {w : List UInt8} {H : AH} (h : ∀ d, w ≠ quoteL d) (H1 : AH) : Back 8 H (UnqP w H) [.str [], .int .i64 4] H1 :=
  back_flat rfl ⟨rfl, [], 4, rfl, by simp, fun d hd => absurd hd (h d)⟩

theorem quoteL_first (d : List UInt8) : (quoteL d)[0]? = some 34 := rfl
theorem quoteL_size (d : List UInt8) : (quoteL d).length = (d.flatMap quote1).length + 2 := by
  unfold quoteL
  simp only [List.length_cons, List.length_append, List.length_nil]
theorem quoteL_last (d : List UInt8) : (quoteL d)[(quoteL d).length - 1]? = some 34 := by
  rw [quoteL_size]
  show (34 :: (d.flatMap quote1 ++ [34]))[(d.flatMap quote1).length + 1]? = some 34
  rw [List.getElem?_cons_succ, List.getElem?_append_right (Nat.le_refl _), Nat.sub_self]
  rfl
theorem quoteL_in (d : List UInt8) : ((quoteL d).drop 1).take ((quoteL d).length - 1 - 1) = d.flatMap quote1 := by
  rw [quoteL_size]
  show (d.flatMap quote1 ++ [34]).take _ = _
  rw [show (d.flatMap quote1).length + 2 - 1 - 1 = (d.flatMap quote1).length by omega, List.take_left]

theorem Tryz.unq (w : List UInt8) (hw : w.length ≤ 1000000) (H : AH) : ∃ (r : List UInt8) (e : Int), Tryz.call 56 [.str w] H = some (.ok (.tup [.str r, .int .i64 e]), H) ∧ r.length ≤ w.length ∧ ∀ d, w = quoteL d → r = d ∧ e = 0 := by
  suffices h : W Tryz.call (endK Tryz.fn56.res (Back 8 H (UnqP w H))) [] [(0, .str w)] ⟨[], 8, 8⟩ Tryz.fn56.code by
    obtain ⟨vs, H', ⟨rfl, r, e, rfl, hr⟩, hc⟩ := ecall_vE 8 [] (lk Tryz.ext) (lk Tryz.tab) (f := 56) (fn := Tryz.fn56) (args := [.str w]) (H := H) rfl rfl rfl (views_flat rfl (views_nil H 8)) h
    exact ⟨r, e, hc, hr⟩
  simp only [Tryz.fn56, Tryz.fn56_r0, AmR, kp, exe, Arg.val, Env.at, lk, putd, ok1, Option.getD_some, if_true, if_false, reduceCtorEq]
  by_cases hl : (w.length : Int) < 2
  · have d2 : decide ((w.length : Int) < 2) = true := decide_eq_true hl
    simp only [Tryz.fn56_r1, Tryz.fn56_r2, Tryz.fn56_r3, d2, AmR, kp, pushA, exe, Arg.val, Env.at, lk, putd, ok1, okM, abin, Option.getD_some, if_true, if_false, reduceCtorEq, Nat.reduceEqDiff, resAll, resOf, Option.some.injEq, exists_eq_left']
    exact UnqP.bad (fun d e => by have := quoteL_size d; rw [← e] at this; omega) _
  · have d2 : decide ((w.length : Int) < 2) = false := decide_eq_false hl
    have h00 : (0 : Int) ≤ 0 := Int.le_refl 0
    obtain ⟨a, ha⟩ : ∃ a, w[0]? = some a := ⟨_, List.getElem?_eq_getElem (by omega)⟩
    obtain ⟨z, hz⟩ : ∃ z, w[w.length - 1]? = some z := ⟨_, List.getElem?_eq_getElem (by omega)⟩
    have hb : ∀ (c : UInt8), c ≠ 34 → ((c.toNat : Int) != 34) = true := fun c h => by
      rw [bne_iff_ne]
      intro e
      exact h (UInt8.toNat_inj.1 (by show c.toNat = 34; omega))
    have hw1 : IntKind.i64.wrap ((w.length : Int) - 1) = ((w.length - 1 : Nat) : Int) := by rw [IntWalk.i64_in _ (by omega)]; omega
    have hn1 : (0 : Int) ≤ ((w.length - 1 : Nat) : Int) := by omega
    have b1 : bnds w.length w.length (some (.int .i64 (1 : Int))) (some (.int .i64 ((w.length - 1 : Nat) : Int))) = some (1, w.length - 1) := by
      have a1 : (0 : Int) ≤ ((w.length - 1 : Nat) : Int) ∧ ((w.length - 1 : Nat) : Int) ≤ (w.length : Int) := by omega
      have a2 : (0 : Int) ≤ 1 ∧ (1 : Int) ≤ ((w.length - 1 : Nat) : Int) := by omega
      simp only [bnds, bnd, a1, and_self, if_true, Int.toNat_natCast, a2]
      rfl
    simp only [Tryz.fn56_r1, Tryz.fn56_r2, d2, h00, Int.toNat_zero, ha, hw1, hn1, Int.toNat_natCast, hz, AmR, Cd_bne, Rf_bne, kp, pushA, exe, Arg.val, Env.at, lk, putd, ok1, okM, abin, Option.getD_some, if_true, if_false, reduceCtorEq, Nat.reduceEqDiff, Bool.false_eq_true, Option.map_some]
    refine ⟨fun h1 => ⟨fun h2 => ?_, fun h2 => ?_⟩, fun h1 => ?_⟩
    · simp only [Tryz.fn56_r4, hw1, b1, AmR, kp, exe, Arg.val, Env.at, lk, putd, ok1, okM, abin, Option.getD_some, if_true, if_false, reduceCtorEq, Nat.reduceEqDiff, Option.map_some]
      simp only [Tryz.fn56_r5, AmR, kp, exe, Arg.val, Env.at, lk, putd, ok1, Option.getD_some, if_true, if_false, reduceCtorEq]
      generalize hs0 : (w.drop 1).take (w.length - 1 - 1) = s0
      have hs0l : s0.length + 2 ≤ w.length := by rw [← hs0, List.length_take, List.length_drop]; omega
      have hin : ∀ d, w = quoteL d → s0 = d.flatMap quote1 := fun d e => by rw [← hs0, e]; exact quoteL_in d
      refine Tryz.unqLoop s0 (by omega) _ _ _ rfl ?_ ?_ s0.length s0 [] _ _ (Nat.le_refl _) (by simp) (fun d hd => ⟨d, hd, rfl⟩) ⟨by decide, by decide, by decide, .inl ⟨rfl, rfl, rfl⟩⟩
      · intro H' v r e ho hr hd h4
        simp only [Env.at] at h4
        have out : ∀ H1, Back 8 H (UnqP w H) [.str r, .int .i64 0] H1 := fun H1 => back_flat rfl ⟨rfl, r, 0, rfl, by omega, fun d e => ⟨hd d (hin d e), rfl⟩⟩
        have tb := toBytes_of r
        rcases ho.takeFrom with ⟨rfl, hc⟩ | ⟨q, c, rfl, hc⟩
        · rw [hc] at tb
          simp only [Tryz.fn56_r15, h4, takeFrom, tb, AmR, kp, exe, Arg.val, Env.at, lk, putd, ok1, okM, Option.getD_some, if_true, if_false, Nat.reduceEqDiff, resAll, resOf, Option.some.injEq, Option.map_some, exists_eq_left']
          exact out _
        · simp only [Tryz.fn56_r15, h4, takeFrom, hc, tb, AmR, kp, exe, Arg.val, Env.at, lk, putd, ok1, okM, Option.getD_some, if_true, if_false, Nat.reduceEqDiff, resAll, resOf, Option.some.injEq, Option.map_some, exists_eq_left']
          exact out _
      · intro hd e H' h2 h3
        simp only [Rt_code, Rt_nil]
        rw [endK_ret]
        exact ⟨_, by simp only [resAll, resOf, h2, h3], UnqP.bad (fun d e => hd d (hin d e)) _⟩
    · simp only [Tryz.fn56_r3, AmR, kp, exe, Arg.val, Env.at, lk, putd, ok1, Option.getD_some, if_true, if_false, reduceCtorEq, Nat.reduceEqDiff, resAll, resOf, Option.some.injEq, exists_eq_left']
      refine UnqP.bad (fun d e => ?_) _
      have := quoteL_last d
      rw [← e, hz, Option.some.injEq] at this
      exact h2 (by rw [this]; rfl)
    · simp only [Tryz.fn56_r3, AmR, kp, exe, Arg.val, Env.at, lk, putd, ok1, Option.getD_some, if_true, if_false, reduceCtorEq, Nat.reduceEqDiff, resAll, resOf, Option.some.injEq, exists_eq_left']
      refine UnqP.bad (fun d e => ?_) _
      have := quoteL_first d
      rw [← e, ha, Option.some.injEq] at this
      exact h1 (by rw [this]; rfl)

/-- A string is restored from what quotes it. -/
theorem quoteL_inj (d d' : List UInt8) (h : quoteL d = quoteL d') : d = d' := by
  have h1 : ∀ d d' : List UInt8, d.flatMap quote1 = d'.flatMap quote1 → d = d' := by
    intro d
    induction d with
    | nil =>
      intro d' e
      cases d' with
      | nil => rfl
      | cons x d' =>
        have := congrArg List.length e
        have hp := quote1_pos x
        rw [List.flatMap_cons, List.length_append, List.flatMap_nil, List.length_nil] at this
        omega
    | cons x d ih =>
      intro d' e
      cases d' with
      | nil =>
        have := congrArg List.length e
        have hp := quote1_pos x
        rw [List.flatMap_cons, List.length_append, List.flatMap_nil, List.length_nil] at this
        omega
      | cons y d' =>
        rw [List.flatMap_cons, List.flatMap_cons] at e
        have e2 := congrArg stepU e
        rw [stepU_quote, stepU_quote, Option.some.injEq, Prod.mk.injEq] at e2
        obtain ⟨rfl, _⟩ := e2
        rw [ih d' (List.append_cancel_left e)]
  refine h1 d d' ?_
  rw [← quoteL_in d, ← quoteL_in d', h]

end Go.Am

/- Unquote of the specification. Conditions: those that each theorem names. -/
namespace Go.Am

/-- What has been read of w, up to i. -/
def RInv (w : List UInt8) (i : Nat) (out : List UInt8) : Prop := ∀ d, w = quoteL d → ∃ d2, w.drop i = d2.flatMap quote1 ++ [34] ∧ d = out ++ d2

theorem RInv.step {w out : List UInt8} {i n : Nat} {c b : UInt8} (h : RInv w i out) (hc : w[i]? = some c) (h34 : c ≠ 34) (hs : stepU (w.drop i) = some (b, n)) : RInv w (i + n) (out ++ [b]) := by
  intro d hd
  obtain ⟨d2, h1, rfl⟩ := h d hd
  cases d2 with
  | nil =>
    rw [drop_at hc, List.flatMap_nil, List.nil_append, List.cons.injEq] at h1
    exact absurd h1.1 h34
  | cons x d3 =>
    rw [h1, List.flatMap_cons, List.append_assoc, stepU_quote, Option.some.injEq, Prod.mk.injEq] at hs
    obtain ⟨rfl, rfl⟩ := hs
    refine ⟨d3, ?_, by simp⟩
    rw [← List.drop_drop, h1, List.flatMap_cons, List.append_assoc, List.drop_left]
theorem RInv.fail {w out : List UInt8} {i : Nat} {c : UInt8} (h : RInv w i out) (hc : w[i]? = some c) (h34 : c ≠ 34) (hs : stepU (w.drop i) = none) : ∀ d, w ≠ quoteL d := by
  intro d hd
  obtain ⟨d2, h1, rfl⟩ := h d hd
  cases d2 with
  | nil =>
    rw [drop_at hc, List.flatMap_nil, List.nil_append, List.cons.injEq] at h1
    exact h34 h1.1
  | cons x d3 =>
    rw [h1, List.flatMap_cons, List.append_assoc, stepU_quote] at hs
    cases hs
theorem RInv.stop {w out : List UInt8} {i : Nat} (h : RInv w i out) (hc : w[i]? = some 34) : ∀ d, w = quoteL d → out = d ∧ i + 1 = w.length := by
  intro d hd
  obtain ⟨d2, h1, rfl⟩ := h d hd
  cases d2 with
  | nil =>
    have := congrArg List.length h1
    rw [List.length_drop, List.flatMap_nil, List.nil_append, List.length_singleton] at this
    exact ⟨by simp, by omega⟩
  | cons x d3 =>
    have h2 := congrArg List.head? h1
    rw [drop_at hc, List.head?_cons, List.flatMap_cons, List.append_assoc, head_app _ (List.length_pos_iff.1 (quote1_pos x))] at h2
    exact absurd h2.symm (quote1_head x)
theorem RInv.done {w out : List UInt8} {i : Nat} (h : RInv w i out) (hi : w.length ≤ i) : ∀ d, w ≠ quoteL d := by
  intro d hd
  obtain ⟨d2, h1, rfl⟩ := h d hd
  rw [List.drop_eq_nil_of_le hi] at h1
  have := congrArg List.length h1
  simp at this

def QuoP (w : List UInt8) (H : AH) (vs : List AV) (H' : AH) : Prop := H' = H ∧ ∃ (r : List UInt8) (k : Int) (ok : Bool), vs = [.str r, .int .i64 k, .bool ok] ∧ r.length ≤ w.length ∧ ∀ d, w = quoteL d → r = d ∧ k = w.length ∧ ok = true

theorem QuoP.bad {w : List UInt8} {H : AH} (h : ∀ d, w ≠ quoteL d) (H1 : AH) : Back 8 H (QuoP w H) [.str [], .int .i64 0, .bool false] H1 :=
  back_flat rfl ⟨rfl, [], 0, false, rfl, by simp, fun d hd => absurd hd (h d)⟩

end Go.Am

/- Parse of the program. Conditions: those that each theorem names. -/
namespace Go.Am

theorem cutN_succ (k : Nat) (s : List UInt8) : cutN (k + 1) s = match wordO s with
    | none => [s]
    | some (w, r) => w :: cutN k r := rfl
theorem cutN_cons {k : Nat} {s w : List UInt8} {l : List (List UInt8)} (h : cutN (k + 1) s = w :: l) (hl : l ≠ []) : ∃ r, wordO s = some (w, r) ∧ cutN k r = l := by
  rw [cutN_succ] at h
  cases hw : wordO s with
  | none => rw [hw] at h; simp only [List.cons.injEq] at h; exact absurd h.2.symm hl
  | some p =>
    obtain ⟨w', r⟩ := p
    rw [hw] at h
    simp only [List.cons.injEq] at h
    exact ⟨r, by rw [h.1], h.2⟩

theorem readL_seven {s w0 w1 w2 w3 w4 w5 w6 : List UInt8} (h : cutN 6 s = [w0, w1, w2, w3, w4, w5, w6]) : readL s = (idx w0 kindNames 0).bind fun k => (numZ w1).bind fun a => (numZ w2).bind fun b => (numZ w3).bind fun c => (numZ w4).bind fun e => (numZ w5).bind fun f => (unqL w6).map fun d => ⟨(k : Int) + 1, a, b, c, e, d, f⟩ := by
  obtain ⟨r0, h0, h⟩ := cutN_cons h (by simp)
  obtain ⟨r1, h1, h⟩ := cutN_cons h (by simp)
  obtain ⟨r2, h2, h⟩ := cutN_cons h (by simp)
  obtain ⟨r3, h3, h⟩ := cutN_cons h (by simp)
  obtain ⟨r4, h4, h⟩ := cutN_cons h (by simp)
  obtain ⟨r5, h5, h⟩ := cutN_cons h (by simp)
  have h6 : r5 = w6 := by
    simp only [cutN, List.cons.injEq, and_true] at h; exact h
  subst h6
  unfold readL
  rw [h0, Option.bind_some]
  dsimp only
  congr 1
  funext k
  simp only [numsL, h1, h2, h3, h4, h5, Option.bind_some]
  cases numZ w1 with
  | none => rfl
  | some a =>
    cases numZ w2 with
    | none => rfl
    | some b =>
      cases numZ w3 with
      | none => rfl
      | some c =>
        cases numZ w4 with
        | none => rfl
        | some e =>
          cases numZ w5 with
          | none => rfl
          | some f =>
            simp only [Option.bind_some, Option.map_some]
            cases unqL r5 <;> rfl

theorem numsL_cut : ∀ {k : Nat} {s : List UInt8} {p : List Int × List UInt8}, numsL k s = some p → (cutN k s).length = k + 1
  | 0, s, p, h => rfl
  | k + 1, s, p, h => by
    unfold numsL at h
    obtain ⟨q, hq, h⟩ := Option.bind_eq_some_iff.1 h
    obtain ⟨z, hz, h⟩ := Option.bind_eq_some_iff.1 h
    obtain ⟨p', hp', h⟩ := Option.map_eq_some_iff.1 h
    obtain ⟨w, r⟩ := q
    rw [cutN_succ, hq]
    have := numsL_cut hp'
    dsimp only at this ⊢
    rw [List.length_cons, this]

theorem readL_not {s : List UInt8} (h : (cutN 6 s).length ≠ 7) : readL s = none := by
  cases hr : readL s with
  | none => rfl
  | some x =>
    unfold readL at hr
    obtain ⟨p, hp, hr⟩ := Option.bind_eq_some_iff.1 hr
    obtain ⟨k, hk, hr⟩ := Option.bind_eq_some_iff.1 hr
    obtain ⟨q, hq, hr⟩ := Option.bind_eq_some_iff.1 hr
    obtain ⟨w, r⟩ := p
    have := numsL_cut hq
    refine absurd ?_ h
    rw [cutN_succ, hp]
    dsimp only at this ⊢
    rw [List.length_cons, this]

theorem cutN_len : ∀ (k : Nat) (s : List UInt8), ∀ w ∈ cutN k s, w.length ≤ s.length
  | 0, s, w, hw => by
    simp only [cutN, List.mem_singleton] at hw; rw [hw]; exact Nat.le_refl _
  | k + 1, s, w, hw => by
    rw [cutN_succ] at hw
    cases h : wordO s with
    | none => rw [h] at hw; simp only [List.mem_singleton] at hw; rw [hw]; exact Nat.le_refl _
    | some p =>
      obtain ⟨v, r⟩ := p
      rw [h] at hw
      have := wordO_len h
      rcases List.mem_cons.1 hw with rfl | hw
      · omega
      · have := cutN_len k r w hw; omega

def evNil : Ev := ⟨0, 0, 0, 0, 0, [], 0⟩
/-- What Parse gives. -/
noncomputable def parseR (s : List UInt8) : List AV := match readL s with
  | none => [evNil.av, .int .i64 4]
  | some x => if x.ok = true then [x.av, .int .i64 0] else [evNil.av, .int .i64 2]

theorem parseR_none {s : List UInt8} (h : readL s = none) : parseR s = [evNil.av, .int .i64 4] := by unfold parseR; rw [h]
theorem parseR_some {s : List UInt8} {x : Ev} (h : readL s = some x) : parseR s = if x.ok = true then [x.av, .int .i64 0] else [evNil.av, .int .i64 2] := by unfold parseR; rw [h]

theorem Tryz.splitN (s : List UInt8) (hs : s.length ≤ 1000000) (H : AH) : Tryz.call 38 [.str s, .str [32], .int .i64 7] H = some (.ok (.sl H.next 0 1 (cutN 6 s).length (some (min 7 (s.length + 1)))), H.push 9 false (splitCells s [32] 7)) := by
  refine ecall_ext 8 [] _ _ (g := gSplitN2 9) rfl _ H ?_
  have h := cutN_le 6 s
  simp only [gSplitN2, Int.reduceToNat, splitN_cut]
  rw [if_pos ⟨by omega, by decide, by decide, by decide, by omega⟩]

theorem splitCells_seven {s w0 w1 w2 w3 w4 w5 w6 : List UInt8} (h : cutN 6 s = [w0, w1, w2, w3, w4, w5, w6]) : splitCells s [32] 7 = [.str w0, .str w1, .str w2, .str w3, .str w4, .str w5, .str w6] := by
  unfold splitCells
  rw [splitN_cut, h]
  rw [show min 7 (s.length + 1) - [w0, w1, w2, w3, w4, w5, w6].length = 0 by simp only [List.length_cons, List.length_nil]; omega]
  simp

theorem Tryz.unqU (w : List UInt8) (hw : w.length ≤ 1000000) : ∃ (r : List UInt8) (e : Int), (∀ H, Tryz.call 56 [.str w] H = some (.ok (.tup [.str r, .int .i64 e]), H)) ∧ r.length ≤ w.length ∧ ∀ d, w = quoteL d → r = d ∧ e = 0 := by
  obtain ⟨r, e, h1, h2⟩ := Tryz.unq w hw ⟨[], 8, 8⟩
  exact ⟨r, e, ecall_any (fn := Tryz.fn56) rfl rfl rfl (fun H => views_flat rfl (views_nil H 8)) h1, h2⟩
theorem Tryz.numU (w : List UInt8) (hw : w.length ≤ 1000000) : ∃ (n : Int) (is fits : Bool), (∀ H, Tryz.call 57 [.str w] H = some (.ok (.tup [.int .i64 n, .bool is, .bool fits]), H)) ∧ is = (numZ w).isSome ∧ ∀ v, numZ w = some v → fits = fitsZ v ∧ (fits = true → n = v) := by
  obtain ⟨n, is, fits, h1, h2⟩ := Tryz.num w hw ⟨[], 8, 8⟩
  exact ⟨n, is, fits, ecall_any (fn := Tryz.fn57) rfl rfl rfl (fun H => views_flat rfl (views_nil H 8)) h1, h2⟩

theorem Tryz.parse (s : List UInt8) (hs : s.length ≤ 100000) (H : AH) : Tryz.call 40 [.str s] H = some (.ok (pack (parseR s)), H) := by
  refine ecall_flat 8 [] _ _ (out := parseR s) rfl rfl rfl (views_flat rfl (views_nil H 8)) (by unfold parseR; split <;> (try split) <;> rfl) ?_
  show W Tryz.call _ _ _ _ _
  have hsp := Tryz.splitN s (by omega)
  simp only [Tryz.fn40, Tryz.fn40_r0, AmR, kp, exe, number, Arg.val, Env.at, lk, putd, ok1, AH.push, Option.getD_some, if_true, if_false, reduceCtorEq, Nat.reduceEqDiff, Nat.reduceAdd, List.append_nil]
  simp only [Tryz.fn40_r1, hsp, AmR, kp, exe, Arg.val, Env.at, lk, putd, ok1, AH.push, Option.getD_some, if_true, if_false, reduceCtorEq, Nat.reduceEqDiff, Nat.reduceAdd, List.map_cons, List.map_nil]
  by_cases h7 : (cutN 6 s).length = 7
  case neg =>
    rw [parseR_none (readL_not h7)]
    simp only [Tryz.fn40_r2, AmR, Cd_bne, kp, pushA, exe, Arg.val, Env.at, lk, putd, ok1, okM, abin, Option.getD_some, if_true, if_false, Nat.reduceEqDiff, Option.map_some, ↓exe_lenl, lenS_sl]
    refine ⟨fun h => absurd h (by omega), fun _ => ?_⟩
    simp only [Tryz.fn40_r3, evNil, Ev.av, Ev.cells, AmR, kp, exe, Arg.val, Env.at, lk, putd, AV.cells?, ok1, okM, AH.get, Option.getD_some, if_true, if_false, Nat.reduceEqDiff, Nat.reduceAdd, Nat.reduceLT, Bool.false_eq_true, resAll, resOf, and_true, Nat.reduceLeDiff, List.map_nil, AH.cellsAt, AH.store, AH.put, rpl, putAt, solid, List.all_cons, List.all_nil, Bool.and_self, List.length_cons, List.length_nil, List.drop_zero, List.take_succ_cons, List.take_zero, Option.map_some, afill, List.set_cons_zero, List.set_cons_succ]
  obtain ⟨w0, w1, w2, w3, w4, w5, w6, hc⟩ : ∃ w0 w1 w2 w3 w4 w5 w6, cutN 6 s = [w0, w1, w2, w3, w4, w5, w6] := by
    generalize cutN 6 s = l at h7
    match l, h7 with
    | [w0, w1, w2, w3, w4, w5, w6], _ => exact ⟨w0, w1, w2, w3, w4, w5, w6, rfl⟩
  have hread := readL_seven hc
  have hwl := cutN_len 6 s
  have hcap : min 7 (s.length + 1) = 7 := by have := (cutN_le 6 s).2.2; omega
  have hlen6 : w6.length ≤ s.length := hwl w6 (by rw [hc]; simp)
  rw [splitCells_seven hc, hcap, h7]
  have hk := Tryz.kinds
  have hix : ∀ H : AH, H.get 10 = some kindBlk → Tryz.call 55 [.sl 10 0 1 8 (some 8), .str w0] H = some (.ok (.int .i64 (idxZ (idx w0 kindNames 0))), H) := fun H h => Tryz.index w0 kindNames (by decide) H 10 kindBlk (some 8) h rfl
  obtain ⟨r, e, hu, hrl, hrd⟩ := Tryz.unqU w6 (by omega)
  have hqt := Tryz.quote r (by omega)
  have fin4 : readL s = none → parseR s = [.agg [.int .i64 0, .int .i64 0, .int .i64 0, .int .i64 0, .int .i64 0, .str [], .int .i64 0], .int .i64 4] := parseR_none
  simp only [Tryz.fn40_r2, AmR, kp, pushA, exe, Arg.val, Env.at, lk, putd, ok1, okM, abin, Option.getD_some, if_true, if_false, Nat.reduceEqDiff, Option.map_some, bne_self_eq_false, Int.cast_ofNat_Int, ↓exe_lenl, lenS_sl]
  refine W_drawn' (by kernel_rfl) ?_
  simp only [Tryz.fn40_r4, hk, hix, AmR, kp, exe, Arg.val, Env.at, lk, putd, ok1, okM, AH.get, abin, Option.getD_some, if_true, if_false, List.getElem?_cons_zero, Nat.reduceEqDiff, Nat.reduceAdd, Nat.reduceMul, Bool.false_eq_true, and_true, true_and, List.nil_append, List.append_nil, visH, List.filter_cons, List.filter_nil, List.flatMap_nil, List.flatMap_cons, List.contains_cons, List.contains_nil, Nat.reduceBEq, Bool.or_false, Nat.reduceLeDiff, List.map_cons, List.map_nil, List.cons_append, Int.reduceLT, Int.reduceLE, Int.reduceToNat, AH.take1, Int.cast_ofNat_Int]
  simp only [Tryz.fn40_r5, hu, AmR, kp, exe, Arg.val, Env.at, lk, putd, ok1, okM, AH.get, Option.getD_some, if_true, if_false, List.getElem?_cons_zero, List.getElem?_cons_succ, Nat.reduceEqDiff, Nat.reduceAdd, Nat.reduceMul, and_true, List.map_cons, List.map_nil, Int.reduceLT, Int.reduceLE, Int.reduceToNat, Int.cast_ofNat_Int]
  refine W_drawn' (by kernel_rfl) ?_
  cases hi : idx w0 kindNames 0 with
  | none =>
    have hz : IntKind.i64.wrap (idxZ none + 1) = 0 := by decide
    rw [fin4 (by rw [hread, hi]; rfl)]
    simp only [Tryz.fn40_r6, Tryz.fn40_r6a, Tryz.fn40_r6b, Tryz.fn40_r7, hz, beq_self_eq_true, AmR, kp, pushA, exe, Arg.val, Env.at, lk, putd, AV.cells?, ok1, okM, AH.get, abin, Option.getD_some, if_true, if_false, Nat.reduceEqDiff, Nat.reduceAdd, Nat.reduceLT, Bool.false_eq_true, resAll, resOf, and_true, List.nil_append, visH, List.flatMap_nil, Nat.reduceLeDiff, List.map_nil, AH.cellsAt, AH.store, AH.put, rpl, putAt, solid, List.all_cons, List.all_nil, Bool.and_self, List.length_cons, List.length_nil, List.drop_zero, List.take_succ_cons, List.take_zero, Option.map_some, afill, List.set_cons_zero, List.set_cons_succ]
  | some k =>
    have hk8 := (idx_kind hi).1
    have hz : IntKind.i64.wrap (idxZ (some k) + 1) = (k : Int) + 1 := IntWalk.i64_in _ (by unfold idxZ; dsimp only; omega)
    have hk0 : ((k : Int) + 1 == 0) = false := by rw [beq_eq_false_iff_ne]; omega
    have hq1 : ∀ d, w6 = quoteL d → r = d := fun d h => (hrd d h).1
    have fq : (∀ d, w6 ≠ quoteL d) → readL s = none := fun h => by
      have hn : unqL w6 = none := by
        cases hu : unqL w6 with
        | none => rfl
        | some d => exact absurd (unqL_some hu) (h d)
      rw [hread, hn]
      cases idx w0 kindNames 0 <;> cases numZ w1 <;> cases numZ w2 <;> cases numZ w3 <;> cases numZ w4 <;> cases numZ w5 <;> rfl
    by_cases he : e = 0
    case neg =>
      have e1 : (e != 0) = true := by rw [bne_iff_ne]; exact he
      rw [fin4 (fq fun d h => he (hrd d h).2)]
      simp only [Tryz.fn40_r6, Tryz.fn40_r6a, Tryz.fn40_r6b, Tryz.fn40_r7, hz, hk0, e1, AmR, kp, pushA, exe, Arg.val, Env.at, lk, putd, AV.cells?, ok1, okM, AH.get, abin, Option.getD_some, if_true, if_false, Nat.reduceEqDiff, Nat.reduceAdd, Nat.reduceLT, Bool.false_eq_true, resAll, resOf, and_true, List.nil_append, visH, List.flatMap_nil, Nat.reduceLeDiff, List.map_nil, AH.cellsAt, AH.store, AH.put, rpl, putAt, solid, List.all_cons, List.all_nil, Bool.and_self, List.length_cons, List.length_nil, List.drop_zero, List.take_succ_cons, List.take_zero, Option.map_some, afill, List.set_cons_zero, List.set_cons_succ]
    have e1 : (e != 0) = false := by rw [he]; rfl
    simp only [Tryz.fn40_r6, Tryz.fn40_r6a, Tryz.fn40_r6b, hz, hk0, e1, hqt, AmR, Cd_nbeq, kp, pushA, exe, Arg.val, Env.at, lk, putd, ok1, okM, AH.get, abin, Option.getD_some, if_true, if_false, List.getElem?_cons_zero, List.getElem?_cons_succ, Nat.reduceEqDiff, Nat.reduceAdd, Nat.reduceMul, Bool.false_eq_true, and_true, true_and, List.nil_append, visH, List.filter_nil, List.flatMap_nil, List.contains_cons, List.contains_nil, Bool.or_false, Nat.reduceLeDiff, List.map_cons, List.map_nil, Int.reduceLT, Int.reduceLE, Int.reduceToNat, Int.cast_ofNat_Int]
    refine ⟨fun h6 => ?_, fun h6 => ?_⟩
    case _ =>
      have hu6 : unqL w6 = some r := by
        cases hu : unqL w6 with
        | none => exact absurd h6.symm (unqL_none hu r)
        | some d => rw [hq1 d (unqL_some hu)]
      rw [hi, hu6] at hread
      simp only [Option.bind_some, Option.map_some] at hread
      obtain ⟨n1, i1, f1, hn1, hs1, hv1⟩ := Tryz.numU w1 (by have := hwl w1 (by rw [hc]; simp); omega)
      obtain ⟨n2, i2, f2, hn2, hs2, hv2⟩ := Tryz.numU w2 (by have := hwl w2 (by rw [hc]; simp); omega)
      obtain ⟨n3, i3, f3, hn3, hs3, hv3⟩ := Tryz.numU w3 (by have := hwl w3 (by rw [hc]; simp); omega)
      obtain ⟨n4, i4, f4, hn4, hs4, hv4⟩ := Tryz.numU w4 (by have := hwl w4 (by rw [hc]; simp); omega)
      obtain ⟨n5, i5, f5, hn5, hs5, hv5⟩ := Tryz.numU w5 (by have := hwl w5 (by rw [hc]; simp); omega)
      obtain ⟨L, hL⟩ : ∃ L, L = ACode.loop (some [2, 4, 5, 6, 8, 9, 49]) Tryz.fn40_l0 := ⟨_, rfl⟩
      have fnum : ∀ w, w = w1 ∨ w = w2 ∨ w = w3 ∨ w = w4 ∨ w = w5 → (numZ w).isSome = false → readL s = none := fun w hw hn => by
        have hn' : numZ w = none := by cases h : numZ w with
          | none => rfl
          | some v => rw [h] at hn; cases hn
        rw [hread]
        rcases hw with rfl | rfl | rfl | rfl | rfl <;> rw [hn'] <;> (try cases numZ w1) <;> (try cases numZ w2) <;> (try cases numZ w3) <;> (try cases numZ w4) <;> rfl
      have q1 : IntKind.i64.wrap (1 : Int) = 1 := by decide
      have q2 : IntKind.i64.wrap (2 : Int) = 2 := by decide
      have q3 : IntKind.i64.wrap (3 : Int) = 3 := by decide
      have q4 : IntKind.i64.wrap (4 : Int) = 4 := by decide
      have q5 : IntKind.i64.wrap (5 : Int) = 5 := by decide
      have L5 : ∀ sm : Bool, sm = (f1 && f2 && f3 && f4 && f5) → i1 = true ∧ i2 = true ∧ i3 = true ∧ i4 = true ∧ i5 = true → W Tryz.call (flatK [.celln 2 7, .tmp 3] (parseR s)) (.block 0 :: [.code (.seq (.seq (.seq (.reg Tryz.fn40_r20)
   (.trim [2, 6, 8, 73, 75, 77, 79, 81, 82]))
  (.seq (.reg Tryz.fn40_r21)
  (.trim [2, 8, 14])))
 (.seq (.seq (.seq (.reg Tryz.fn40_r22)
   (.trim [2, 14, 92]))
  (.cond (.t 92)
   (.seq (.seq (.reg Tryz.fn40_r23)
    (.trim [2, 3]))
   .ret)
   .skip))
 (.seq (.seq (.reg Tryz.fn40_r24)
  (.trim [2, 3]))
 .ret)))]) [(2, .ptr 8 0), (4, .sl 9 0 1 7 (some 7)), (5, .int .i64 ((k : Int) + 1)), (6, .str r), (8, .bool sm), (9, .ptr 11 0), (49, .int .i64 5)] ⟨[(11, ⟨[.int .i64 n1, .int .i64 n2, .int .i64 n3, .int .i64 n4, .int .i64 n5], false, 99, true, true⟩), (10, kindBlk), (9, ⟨[.str w0, .str w1, .str w2, .str w3, .str w4, .str w5, .str w6], false, 9, false, true⟩), (8, ⟨[.int .i64 0, .int .i64 0, .int .i64 0, .int .i64 0, .int .i64 0, .str [], .int .i64 0], false, 40, true, true⟩)], 12, 8⟩ L := by
        rintro sm hsm ⟨e1, e2, e3, e4, e5⟩
        rw [e1] at hs1; rw [e2] at hs2; rw [e3] at hs3; rw [e4] at hs4; rw [e5] at hs5
        obtain ⟨v1, z1⟩ := Option.isSome_iff_exists.1 hs1.symm
        obtain ⟨v2, z2⟩ := Option.isSome_iff_exists.1 hs2.symm
        obtain ⟨v3, z3⟩ := Option.isSome_iff_exists.1 hs3.symm
        obtain ⟨v4, z4⟩ := Option.isSome_iff_exists.1 hs4.symm
        obtain ⟨v5, z5⟩ := Option.isSome_iff_exists.1 hs5.symm
        rw [z1, z2, z3, z4, z5] at hread
        simp only [Option.bind_some] at hread
        obtain ⟨g1, m1⟩ := hv1 v1 z1
        obtain ⟨g2, m2⟩ := hv2 v2 z2
        obtain ⟨g3, m3⟩ := hv3 v3 z3
        obtain ⟨g4, m4⟩ := hv4 v4 z4
        obtain ⟨g5, m5⟩ := hv5 v5 z5
        rw [parseR_some hread]
        have hval := Tryz.valid ⟨(k : Int) + 1, n1, n2, n3, n4, r, n5⟩
        refine W_loopN hL ?_
        simp only [Tryz.fn40_l0, Tryz.fn40_r11, AmR, kp, pushA, exe, Arg.val, Env.at, lk, putd, okM, abin, Option.getD_some, if_true, if_false, Nat.reduceEqDiff, decide_false, Int.reduceLT]
        generalize hB : Ev.ok ⟨(k : Int) + 1, n1, n2, n3, n4, r, n5⟩ = B at hval
        simp only [Ev.av, Ev.cells] at hval
        simp only [Tryz.fn40_r20, AmR, kp, exe, Arg.val, Env.at, lk, putd, ok1, okM, AH.get, Option.getD_some, if_true, if_false, List.getElem?_cons_zero, List.getElem?_cons_succ, Nat.reduceEqDiff, Nat.reduceAdd, Nat.reduceMul, and_true, Int.reduceLT, Int.reduceLE, Int.reduceToNat, Int.cast_ofNat_Int]
        simp only [Tryz.fn40_r21, AmR, kp, exe, Arg.val, Env.at, lk, putd, AV.cells?, ok1, okM, AH.push, AH.get, Option.getD_some, if_true, if_false, List.getElem?_cons_zero, List.getElem?_cons_succ, Nat.reduceEqDiff, Nat.reduceAdd, Nat.reduceLT, Bool.false_eq_true, and_true, Nat.reduceLeDiff, List.map_cons, List.map_nil, AH.store, AH.put, rpl, putAt, solid, List.all_cons, List.all_nil, Bool.and_self, List.length_cons, List.length_nil, Option.map_some, afill, List.set_cons_zero, List.set_cons_succ]
        cases sm with
        | false =>
          rw [if_neg (fun h => by
            rw [Ev.ok_iff] at h
            dsimp only at h
            have y1 : fitsZ v1 = true := decide_eq_true (by omega)
            have y2 : fitsZ v2 = true := decide_eq_true (by omega)
            have y3 : fitsZ v3 = true := decide_eq_true (by omega)
            have y4 : fitsZ v4 = true := decide_eq_true (by omega)
            have y5 : fitsZ v5 = true := decide_eq_true (by omega)
            rw [g1, g2, g3, g4, g5, y1, y2, y3, y4, y5] at hsm
            cases hsm)]
          simp only [Tryz.fn40_r22, Tryz.fn40_r23, evNil, Ev.av, Ev.cells, AmR, kp, pushA, exe, Arg.val, Env.at, lk, putd, AV.cells?, ok1, okM, AH.get, Option.getD_some, if_true, if_false, Bool.not_false, Nat.reduceEqDiff, Nat.reduceAdd, Nat.reduceLT, Bool.false_eq_true, resAll, resOf, and_true, Nat.reduceLeDiff, aun, List.map_nil, AH.cellsAt, AH.store, AH.put, rpl, putAt, solid, List.all_cons, List.all_nil, Bool.and_self, List.length_cons, List.length_nil, List.drop_zero, List.take_succ_cons, List.take_zero, Option.map_some, afill, List.set_cons_zero, List.set_cons_succ]
        | true =>
          have hsm' := hsm.symm
          simp only [Bool.and_eq_true] at hsm'
          obtain ⟨⟨⟨⟨x1, x2⟩, x3⟩, x4⟩, x5⟩ := hsm'
          rw [← m1 x1, ← m2 x2, ← m3 x3, ← m4 x4, ← m5 x5, hB]
          cases B with
          | false =>
            rw [if_neg (by decide)]
            simp only [Tryz.fn40_r22, hval, Tryz.fn40_r23, evNil, Ev.av, Ev.cells, AmR, kp, pushA, exe, Arg.val, Env.at, lk, putd, AV.cells?, ok1, okM, AH.get, Option.getD_some, if_true, if_false, Bool.not_true, Bool.not_false, Nat.reduceEqDiff, Nat.reduceAdd, Nat.reduceLT, Bool.false_eq_true, resAll, resOf, and_true, Nat.reduceLeDiff, aun, List.map_cons, List.map_nil, AH.cellsAt, AH.store, AH.put, rpl, putAt, solid, List.all_cons, List.all_nil, Bool.and_self, List.length_cons, List.length_nil, List.drop_zero, List.take_succ_cons, List.take_zero, Option.map_some, afill, List.set_cons_zero, List.set_cons_succ]
          | true =>
            rw [if_pos rfl]
            simp only [Tryz.fn40_r22, hval, Tryz.fn40_r24, Ev.av, Ev.cells, AmR, kp, pushA, exe, Arg.val, Env.at, lk, putd, AV.cells?, ok1, okM, AH.get, Option.getD_some, if_true, if_false, Bool.not_true, Nat.reduceEqDiff, Nat.reduceAdd, Nat.reduceLT, Bool.false_eq_true, resAll, resOf, and_true, Nat.reduceLeDiff, aun, List.map_cons, List.map_nil, AH.cellsAt, AH.store, AH.put, rpl, putAt, solid, List.all_cons, List.all_nil, Bool.and_self, List.length_cons, List.length_nil, List.drop_zero, List.take_succ_cons, List.take_zero, Option.map_some, List.set_cons_zero, List.set_cons_succ]
      have L4 : ∀ sm : Bool, sm = (f1 && f2 && f3 && f4) → i1 = true ∧ i2 = true ∧ i3 = true ∧ i4 = true → W Tryz.call (flatK [.celln 2 7, .tmp 3] (parseR s)) (.block 0 :: [.code (.seq (.seq (.seq (.reg Tryz.fn40_r20)
   (.trim [2, 6, 8, 73, 75, 77, 79, 81, 82]))
  (.seq (.reg Tryz.fn40_r21)
  (.trim [2, 8, 14])))
 (.seq (.seq (.seq (.reg Tryz.fn40_r22)
   (.trim [2, 14, 92]))
  (.cond (.t 92)
   (.seq (.seq (.reg Tryz.fn40_r23)
    (.trim [2, 3]))
   .ret)
   .skip))
 (.seq (.seq (.reg Tryz.fn40_r24)
  (.trim [2, 3]))
 .ret)))]) [(2, .ptr 8 0), (4, .sl 9 0 1 7 (some 7)), (5, .int .i64 ((k : Int) + 1)), (6, .str r), (8, .bool sm), (9, .ptr 11 0), (49, .int .i64 4)] ⟨[(11, ⟨[.int .i64 n1, .int .i64 n2, .int .i64 n3, .int .i64 n4, .int .i64 0], false, 99, true, true⟩), (10, kindBlk), (9, ⟨[.str w0, .str w1, .str w2, .str w3, .str w4, .str w5, .str w6], false, 9, false, true⟩), (8, ⟨[.int .i64 0, .int .i64 0, .int .i64 0, .int .i64 0, .int .i64 0, .str [], .int .i64 0], false, 40, true, true⟩)], 12, 8⟩ L := by
        intro sm hsm hall
        refine W_loopN hL ?_
        simp only [Tryz.fn40_l0, Tryz.fn40_r11, AmR, kp, pushA, exe, Arg.val, Env.at, lk, putd, okM, abin, Option.getD_some, if_true, if_false, Nat.reduceEqDiff, decide_true, Int.reduceLT]
        simp only [Tryz.fn40_r12, AmR, kp, exe, Arg.val, Env.at, lk, putd, ok1, Option.getD_some, if_true, if_false, Nat.reduceEqDiff]
        simp only [Tryz.fn40_r13, q5, hn5, AmR, kp, exe, Arg.val, Env.at, lk, putd, ok1, okM, AH.get, abin, Option.getD_some, if_true, if_false, List.getElem?_cons_zero, List.getElem?_cons_succ, Nat.reduceEqDiff, Nat.reduceAdd, Nat.reduceMul, and_true, List.map_cons, List.map_nil, Int.reduceLT, Int.reduceLE, Int.reduceAdd, Int.reduceToNat, Int.cast_ofNat_Int]
        simp only [Tryz.fn40_r14, AmR, kp, exe, Arg.val, Env.at, lk, putd, ok1, Option.getD_some, if_true, if_false, Nat.reduceEqDiff]
        cases hb : i5 with
        | false =>
          rw [fin4 (fnum w5 (by simp) (by rw [← hs5, hb]))]
          simp only [Tryz.fn40_r15, Tryz.fn40_r16, AmR, kp, pushA, exe, Arg.val, Env.at, lk, putd, AV.cells?, ok1, okM, AH.get, Option.getD_some, if_true, if_false, Bool.not_false, Nat.reduceEqDiff, Nat.reduceAdd, Nat.reduceLT, Bool.false_eq_true, resAll, resOf, and_true, Nat.reduceLeDiff, aun, List.map_nil, AH.cellsAt, AH.store, AH.put, rpl, putAt, solid, List.all_cons, List.all_nil, Bool.and_self, List.length_cons, List.length_nil, List.drop_zero, List.take_succ_cons, List.take_zero, Option.map_some, afill, List.set_cons_zero, List.set_cons_succ]
        | true =>
          have nx := L5 (sm && f5) (by rw [hsm]) (by simp only [hall, hb, and_self])
          clear hsm
          cases sm with
          | false =>
            simp only [Bool.false_and] at nx
            simp only [Tryz.fn40_r15, AmR, kp, pushA, exe, Arg.val, Env.at, lk, putd, ok1, okM, Option.getD_some, if_true, if_false, Bool.not_true, Nat.reduceEqDiff, aun]
            simp only [Tryz.fn40_r17, AmR, kp, exe, Arg.val, Env.at, lk, putd, AV.cells?, ok1, AH.get, Option.getD_some, if_true, if_false, Nat.reduceEqDiff, Nat.reduceAdd, Nat.reduceMul, Nat.reduceLT, Bool.false_eq_true, and_true, Nat.reduceLeDiff, AH.store, AH.put, rpl, putAt, solid, List.all_cons, List.all_nil, Bool.and_self, List.length_cons, List.length_nil, Option.map_some, Int.reduceLT, Int.reduceLE, Int.reduceToNat, List.set_cons_zero, List.set_cons_succ, Int.cast_ofNat_Int]
            simp only [Tryz.fn40_r18, AmR, kp, exe, Arg.val, Env.at, lk, putd, ok1, Option.getD_some, if_true, if_false, Nat.reduceEqDiff, Bool.false_eq_true]
            simp only [Tryz.fn40_r19, q5, AmR, kp, exe, Arg.val, Env.at, lk, putd, ok1, okM, abin, Option.getD_some, if_true, if_false, Nat.reduceEqDiff, Int.reduceAdd]
            exact nx
          | true =>
            simp only [Bool.true_and] at nx
            simp only [Tryz.fn40_r15, AmR, kp, pushA, exe, Arg.val, Env.at, lk, putd, ok1, okM, Option.getD_some, if_true, if_false, Bool.not_true, Nat.reduceEqDiff, aun]
            simp only [Tryz.fn40_r17, AmR, kp, exe, Arg.val, Env.at, lk, putd, AV.cells?, ok1, AH.get, Option.getD_some, if_true, if_false, Nat.reduceEqDiff, Nat.reduceAdd, Nat.reduceMul, Nat.reduceLT, Bool.false_eq_true, and_true, Nat.reduceLeDiff, AH.store, AH.put, rpl, putAt, solid, List.all_cons, List.all_nil, Bool.and_self, List.length_cons, List.length_nil, Option.map_some, Int.reduceLT, Int.reduceLE, Int.reduceToNat, List.set_cons_zero, List.set_cons_succ, Int.cast_ofNat_Int]
            simp only [Tryz.fn40_r18, AmR, kp, exe, Arg.val, Env.at, lk, putd, ok1, Option.getD_some, if_true, if_false, Nat.reduceEqDiff]
            simp only [Tryz.fn40_r19, q5, AmR, kp, exe, Arg.val, Env.at, lk, putd, ok1, okM, abin, Option.getD_some, if_true, if_false, Nat.reduceEqDiff, Int.reduceAdd]
            exact nx
      have L3 : ∀ sm : Bool, sm = (f1 && f2 && f3) → i1 = true ∧ i2 = true ∧ i3 = true → W Tryz.call (flatK [.celln 2 7, .tmp 3] (parseR s)) (.block 0 :: [.code (.seq (.seq (.seq (.reg Tryz.fn40_r20)
   (.trim [2, 6, 8, 73, 75, 77, 79, 81, 82]))
  (.seq (.reg Tryz.fn40_r21)
  (.trim [2, 8, 14])))
 (.seq (.seq (.seq (.reg Tryz.fn40_r22)
   (.trim [2, 14, 92]))
  (.cond (.t 92)
   (.seq (.seq (.reg Tryz.fn40_r23)
    (.trim [2, 3]))
   .ret)
   .skip))
 (.seq (.seq (.reg Tryz.fn40_r24)
  (.trim [2, 3]))
 .ret)))]) [(2, .ptr 8 0), (4, .sl 9 0 1 7 (some 7)), (5, .int .i64 ((k : Int) + 1)), (6, .str r), (8, .bool sm), (9, .ptr 11 0), (49, .int .i64 3)] ⟨[(11, ⟨[.int .i64 n1, .int .i64 n2, .int .i64 n3, .int .i64 0, .int .i64 0], false, 99, true, true⟩), (10, kindBlk), (9, ⟨[.str w0, .str w1, .str w2, .str w3, .str w4, .str w5, .str w6], false, 9, false, true⟩), (8, ⟨[.int .i64 0, .int .i64 0, .int .i64 0, .int .i64 0, .int .i64 0, .str [], .int .i64 0], false, 40, true, true⟩)], 12, 8⟩ L := by
        intro sm hsm hall
        refine W_loopN hL ?_
        simp only [Tryz.fn40_l0, Tryz.fn40_r11, AmR, kp, pushA, exe, Arg.val, Env.at, lk, putd, okM, abin, Option.getD_some, if_true, if_false, Nat.reduceEqDiff, decide_true, Int.reduceLT]
        simp only [Tryz.fn40_r12, AmR, kp, exe, Arg.val, Env.at, lk, putd, ok1, Option.getD_some, if_true, if_false, Nat.reduceEqDiff]
        simp only [Tryz.fn40_r13, q4, hn4, AmR, kp, exe, Arg.val, Env.at, lk, putd, ok1, okM, AH.get, abin, Option.getD_some, if_true, if_false, List.getElem?_cons_zero, List.getElem?_cons_succ, Nat.reduceEqDiff, Nat.reduceAdd, Nat.reduceMul, and_true, List.map_cons, List.map_nil, Int.reduceLT, Int.reduceLE, Int.reduceAdd, Int.reduceToNat, Int.cast_ofNat_Int]
        simp only [Tryz.fn40_r14, AmR, kp, exe, Arg.val, Env.at, lk, putd, ok1, Option.getD_some, if_true, if_false, Nat.reduceEqDiff]
        cases hb : i4 with
        | false =>
          rw [fin4 (fnum w4 (by simp) (by rw [← hs4, hb]))]
          simp only [Tryz.fn40_r15, Tryz.fn40_r16, AmR, kp, pushA, exe, Arg.val, Env.at, lk, putd, AV.cells?, ok1, okM, AH.get, Option.getD_some, if_true, if_false, Bool.not_false, Nat.reduceEqDiff, Nat.reduceAdd, Nat.reduceLT, Bool.false_eq_true, resAll, resOf, and_true, Nat.reduceLeDiff, aun, List.map_nil, AH.cellsAt, AH.store, AH.put, rpl, putAt, solid, List.all_cons, List.all_nil, Bool.and_self, List.length_cons, List.length_nil, List.drop_zero, List.take_succ_cons, List.take_zero, Option.map_some, afill, List.set_cons_zero, List.set_cons_succ]
        | true =>
          have nx := L4 (sm && f4) (by rw [hsm]) (by simp only [hall, hb, and_self])
          clear hsm
          cases sm with
          | false =>
            simp only [Bool.false_and] at nx
            simp only [Tryz.fn40_r15, AmR, kp, pushA, exe, Arg.val, Env.at, lk, putd, ok1, okM, Option.getD_some, if_true, if_false, Bool.not_true, Nat.reduceEqDiff, aun]
            simp only [Tryz.fn40_r17, AmR, kp, exe, Arg.val, Env.at, lk, putd, AV.cells?, ok1, AH.get, Option.getD_some, if_true, if_false, Nat.reduceEqDiff, Nat.reduceAdd, Nat.reduceMul, Nat.reduceLT, Bool.false_eq_true, and_true, Nat.reduceLeDiff, AH.store, AH.put, rpl, putAt, solid, List.all_cons, List.all_nil, Bool.and_self, List.length_cons, List.length_nil, Option.map_some, Int.reduceLT, Int.reduceLE, Int.reduceToNat, List.set_cons_zero, List.set_cons_succ, Int.cast_ofNat_Int]
            simp only [Tryz.fn40_r18, AmR, kp, exe, Arg.val, Env.at, lk, putd, ok1, Option.getD_some, if_true, if_false, Nat.reduceEqDiff, Bool.false_eq_true]
            simp only [Tryz.fn40_r19, q4, AmR, kp, exe, Arg.val, Env.at, lk, putd, ok1, okM, abin, Option.getD_some, if_true, if_false, Nat.reduceEqDiff, Int.reduceAdd]
            exact nx
          | true =>
            simp only [Bool.true_and] at nx
            simp only [Tryz.fn40_r15, AmR, kp, pushA, exe, Arg.val, Env.at, lk, putd, ok1, okM, Option.getD_some, if_true, if_false, Bool.not_true, Nat.reduceEqDiff, aun]
            simp only [Tryz.fn40_r17, AmR, kp, exe, Arg.val, Env.at, lk, putd, AV.cells?, ok1, AH.get, Option.getD_some, if_true, if_false, Nat.reduceEqDiff, Nat.reduceAdd, Nat.reduceMul, Nat.reduceLT, Bool.false_eq_true, and_true, Nat.reduceLeDiff, AH.store, AH.put, rpl, putAt, solid, List.all_cons, List.all_nil, Bool.and_self, List.length_cons, List.length_nil, Option.map_some, Int.reduceLT, Int.reduceLE, Int.reduceToNat, List.set_cons_zero, List.set_cons_succ, Int.cast_ofNat_Int]
            simp only [Tryz.fn40_r18, AmR, kp, exe, Arg.val, Env.at, lk, putd, ok1, Option.getD_some, if_true, if_false, Nat.reduceEqDiff]
            simp only [Tryz.fn40_r19, q4, AmR, kp, exe, Arg.val, Env.at, lk, putd, ok1, okM, abin, Option.getD_some, if_true, if_false, Nat.reduceEqDiff, Int.reduceAdd]
            exact nx
      have L2 : ∀ sm : Bool, sm = (f1 && f2) → i1 = true ∧ i2 = true → W Tryz.call (flatK [.celln 2 7, .tmp 3] (parseR s)) (.block 0 :: [.code (.seq (.seq (.seq (.reg Tryz.fn40_r20)
   (.trim [2, 6, 8, 73, 75, 77, 79, 81, 82]))
  (.seq (.reg Tryz.fn40_r21)
  (.trim [2, 8, 14])))
 (.seq (.seq (.seq (.reg Tryz.fn40_r22)
   (.trim [2, 14, 92]))
  (.cond (.t 92)
   (.seq (.seq (.reg Tryz.fn40_r23)
    (.trim [2, 3]))
   .ret)
   .skip))
 (.seq (.seq (.reg Tryz.fn40_r24)
  (.trim [2, 3]))
 .ret)))]) [(2, .ptr 8 0), (4, .sl 9 0 1 7 (some 7)), (5, .int .i64 ((k : Int) + 1)), (6, .str r), (8, .bool sm), (9, .ptr 11 0), (49, .int .i64 2)] ⟨[(11, ⟨[.int .i64 n1, .int .i64 n2, .int .i64 0, .int .i64 0, .int .i64 0], false, 99, true, true⟩), (10, kindBlk), (9, ⟨[.str w0, .str w1, .str w2, .str w3, .str w4, .str w5, .str w6], false, 9, false, true⟩), (8, ⟨[.int .i64 0, .int .i64 0, .int .i64 0, .int .i64 0, .int .i64 0, .str [], .int .i64 0], false, 40, true, true⟩)], 12, 8⟩ L := by
        intro sm hsm hall
        refine W_loopN hL ?_
        simp only [Tryz.fn40_l0, Tryz.fn40_r11, AmR, kp, pushA, exe, Arg.val, Env.at, lk, putd, okM, abin, Option.getD_some, if_true, if_false, Nat.reduceEqDiff, decide_true, Int.reduceLT]
        simp only [Tryz.fn40_r12, AmR, kp, exe, Arg.val, Env.at, lk, putd, ok1, Option.getD_some, if_true, if_false, Nat.reduceEqDiff]
        simp only [Tryz.fn40_r13, q3, hn3, AmR, kp, exe, Arg.val, Env.at, lk, putd, ok1, okM, AH.get, abin, Option.getD_some, if_true, if_false, List.getElem?_cons_zero, List.getElem?_cons_succ, Nat.reduceEqDiff, Nat.reduceAdd, Nat.reduceMul, and_true, List.map_cons, List.map_nil, Int.reduceLT, Int.reduceLE, Int.reduceAdd, Int.reduceToNat, Int.cast_ofNat_Int]
        simp only [Tryz.fn40_r14, AmR, kp, exe, Arg.val, Env.at, lk, putd, ok1, Option.getD_some, if_true, if_false, Nat.reduceEqDiff]
        cases hb : i3 with
        | false =>
          rw [fin4 (fnum w3 (by simp) (by rw [← hs3, hb]))]
          simp only [Tryz.fn40_r15, Tryz.fn40_r16, AmR, kp, pushA, exe, Arg.val, Env.at, lk, putd, AV.cells?, ok1, okM, AH.get, Option.getD_some, if_true, if_false, Bool.not_false, Nat.reduceEqDiff, Nat.reduceAdd, Nat.reduceLT, Bool.false_eq_true, resAll, resOf, and_true, Nat.reduceLeDiff, aun, List.map_nil, AH.cellsAt, AH.store, AH.put, rpl, putAt, solid, List.all_cons, List.all_nil, Bool.and_self, List.length_cons, List.length_nil, List.drop_zero, List.take_succ_cons, List.take_zero, Option.map_some, afill, List.set_cons_zero, List.set_cons_succ]
        | true =>
          have nx := L3 (sm && f3) (by rw [hsm]) (by simp only [hall, hb, and_self])
          clear hsm
          cases sm with
          | false =>
            simp only [Bool.false_and] at nx
            simp only [Tryz.fn40_r15, AmR, kp, pushA, exe, Arg.val, Env.at, lk, putd, ok1, okM, Option.getD_some, if_true, if_false, Bool.not_true, Nat.reduceEqDiff, aun]
            simp only [Tryz.fn40_r17, AmR, kp, exe, Arg.val, Env.at, lk, putd, AV.cells?, ok1, AH.get, Option.getD_some, if_true, if_false, Nat.reduceEqDiff, Nat.reduceAdd, Nat.reduceMul, Nat.reduceLT, Bool.false_eq_true, and_true, Nat.reduceLeDiff, AH.store, AH.put, rpl, putAt, solid, List.all_cons, List.all_nil, Bool.and_self, List.length_cons, List.length_nil, Option.map_some, Int.reduceLT, Int.reduceLE, Int.reduceToNat, List.set_cons_zero, List.set_cons_succ, Int.cast_ofNat_Int]
            simp only [Tryz.fn40_r18, AmR, kp, exe, Arg.val, Env.at, lk, putd, ok1, Option.getD_some, if_true, if_false, Nat.reduceEqDiff, Bool.false_eq_true]
            simp only [Tryz.fn40_r19, q3, AmR, kp, exe, Arg.val, Env.at, lk, putd, ok1, okM, abin, Option.getD_some, if_true, if_false, Nat.reduceEqDiff, Int.reduceAdd]
            exact nx
          | true =>
            simp only [Bool.true_and] at nx
            simp only [Tryz.fn40_r15, AmR, kp, pushA, exe, Arg.val, Env.at, lk, putd, ok1, okM, Option.getD_some, if_true, if_false, Bool.not_true, Nat.reduceEqDiff, aun]
            simp only [Tryz.fn40_r17, AmR, kp, exe, Arg.val, Env.at, lk, putd, AV.cells?, ok1, AH.get, Option.getD_some, if_true, if_false, Nat.reduceEqDiff, Nat.reduceAdd, Nat.reduceMul, Nat.reduceLT, Bool.false_eq_true, and_true, Nat.reduceLeDiff, AH.store, AH.put, rpl, putAt, solid, List.all_cons, List.all_nil, Bool.and_self, List.length_cons, List.length_nil, Option.map_some, Int.reduceLT, Int.reduceLE, Int.reduceToNat, List.set_cons_zero, List.set_cons_succ, Int.cast_ofNat_Int]
            simp only [Tryz.fn40_r18, AmR, kp, exe, Arg.val, Env.at, lk, putd, ok1, Option.getD_some, if_true, if_false, Nat.reduceEqDiff]
            simp only [Tryz.fn40_r19, q3, AmR, kp, exe, Arg.val, Env.at, lk, putd, ok1, okM, abin, Option.getD_some, if_true, if_false, Nat.reduceEqDiff, Int.reduceAdd]
            exact nx
      have L1 : ∀ sm : Bool, sm = (f1) → i1 = true → W Tryz.call (flatK [.celln 2 7, .tmp 3] (parseR s)) (.block 0 :: [.code (.seq (.seq (.seq (.reg Tryz.fn40_r20)
   (.trim [2, 6, 8, 73, 75, 77, 79, 81, 82]))
  (.seq (.reg Tryz.fn40_r21)
  (.trim [2, 8, 14])))
 (.seq (.seq (.seq (.reg Tryz.fn40_r22)
   (.trim [2, 14, 92]))
  (.cond (.t 92)
   (.seq (.seq (.reg Tryz.fn40_r23)
    (.trim [2, 3]))
   .ret)
   .skip))
 (.seq (.seq (.reg Tryz.fn40_r24)
  (.trim [2, 3]))
 .ret)))]) [(2, .ptr 8 0), (4, .sl 9 0 1 7 (some 7)), (5, .int .i64 ((k : Int) + 1)), (6, .str r), (8, .bool sm), (9, .ptr 11 0), (49, .int .i64 1)] ⟨[(11, ⟨[.int .i64 n1, .int .i64 0, .int .i64 0, .int .i64 0, .int .i64 0], false, 99, true, true⟩), (10, kindBlk), (9, ⟨[.str w0, .str w1, .str w2, .str w3, .str w4, .str w5, .str w6], false, 9, false, true⟩), (8, ⟨[.int .i64 0, .int .i64 0, .int .i64 0, .int .i64 0, .int .i64 0, .str [], .int .i64 0], false, 40, true, true⟩)], 12, 8⟩ L := by
        intro sm hsm hall
        refine W_loopN hL ?_
        simp only [Tryz.fn40_l0, Tryz.fn40_r11, AmR, kp, pushA, exe, Arg.val, Env.at, lk, putd, okM, abin, Option.getD_some, if_true, if_false, Nat.reduceEqDiff, decide_true, Int.reduceLT]
        simp only [Tryz.fn40_r12, AmR, kp, exe, Arg.val, Env.at, lk, putd, ok1, Option.getD_some, if_true, if_false, Nat.reduceEqDiff]
        simp only [Tryz.fn40_r13, q2, hn2, AmR, kp, exe, Arg.val, Env.at, lk, putd, ok1, okM, AH.get, abin, Option.getD_some, if_true, if_false, List.getElem?_cons_zero, List.getElem?_cons_succ, Nat.reduceEqDiff, Nat.reduceAdd, Nat.reduceMul, and_true, List.map_cons, List.map_nil, Int.reduceLT, Int.reduceLE, Int.reduceAdd, Int.reduceToNat, Int.cast_ofNat_Int]
        simp only [Tryz.fn40_r14, AmR, kp, exe, Arg.val, Env.at, lk, putd, ok1, Option.getD_some, if_true, if_false, Nat.reduceEqDiff]
        cases hb : i2 with
        | false =>
          rw [fin4 (fnum w2 (by simp) (by rw [← hs2, hb]))]
          simp only [Tryz.fn40_r15, Tryz.fn40_r16, AmR, kp, pushA, exe, Arg.val, Env.at, lk, putd, AV.cells?, ok1, okM, AH.get, Option.getD_some, if_true, if_false, Bool.not_false, Nat.reduceEqDiff, Nat.reduceAdd, Nat.reduceLT, Bool.false_eq_true, resAll, resOf, and_true, Nat.reduceLeDiff, aun, List.map_nil, AH.cellsAt, AH.store, AH.put, rpl, putAt, solid, List.all_cons, List.all_nil, Bool.and_self, List.length_cons, List.length_nil, List.drop_zero, List.take_succ_cons, List.take_zero, Option.map_some, afill, List.set_cons_zero, List.set_cons_succ]
        | true =>
          have nx := L2 (sm && f2) (by rw [hsm]) (by simp only [hall, hb, and_self])
          clear hsm
          cases sm with
          | false =>
            simp only [Bool.false_and] at nx
            simp only [Tryz.fn40_r15, AmR, kp, pushA, exe, Arg.val, Env.at, lk, putd, ok1, okM, Option.getD_some, if_true, if_false, Bool.not_true, Nat.reduceEqDiff, aun]
            simp only [Tryz.fn40_r17, AmR, kp, exe, Arg.val, Env.at, lk, putd, AV.cells?, ok1, AH.get, Option.getD_some, if_true, if_false, Nat.reduceEqDiff, Nat.reduceAdd, Nat.reduceMul, Nat.reduceLT, Bool.false_eq_true, and_true, Nat.reduceLeDiff, AH.store, AH.put, rpl, putAt, solid, List.all_cons, List.all_nil, Bool.and_self, List.length_cons, List.length_nil, Option.map_some, Int.reduceLT, Int.reduceLE, Int.reduceToNat, List.set_cons_zero, List.set_cons_succ, Int.cast_ofNat_Int]
            simp only [Tryz.fn40_r18, AmR, kp, exe, Arg.val, Env.at, lk, putd, ok1, Option.getD_some, if_true, if_false, Nat.reduceEqDiff, Bool.false_eq_true]
            simp only [Tryz.fn40_r19, q2, AmR, kp, exe, Arg.val, Env.at, lk, putd, ok1, okM, abin, Option.getD_some, if_true, if_false, Nat.reduceEqDiff, Int.reduceAdd]
            exact nx
          | true =>
            simp only [Bool.true_and] at nx
            simp only [Tryz.fn40_r15, AmR, kp, pushA, exe, Arg.val, Env.at, lk, putd, ok1, okM, Option.getD_some, if_true, if_false, Bool.not_true, Nat.reduceEqDiff, aun]
            simp only [Tryz.fn40_r17, AmR, kp, exe, Arg.val, Env.at, lk, putd, AV.cells?, ok1, AH.get, Option.getD_some, if_true, if_false, Nat.reduceEqDiff, Nat.reduceAdd, Nat.reduceMul, Nat.reduceLT, Bool.false_eq_true, and_true, Nat.reduceLeDiff, AH.store, AH.put, rpl, putAt, solid, List.all_cons, List.all_nil, Bool.and_self, List.length_cons, List.length_nil, Option.map_some, Int.reduceLT, Int.reduceLE, Int.reduceToNat, List.set_cons_zero, List.set_cons_succ, Int.cast_ofNat_Int]
            simp only [Tryz.fn40_r18, AmR, kp, exe, Arg.val, Env.at, lk, putd, ok1, Option.getD_some, if_true, if_false, Nat.reduceEqDiff]
            simp only [Tryz.fn40_r19, q2, AmR, kp, exe, Arg.val, Env.at, lk, putd, ok1, okM, abin, Option.getD_some, if_true, if_false, Nat.reduceEqDiff, Int.reduceAdd]
            exact nx
      have L0 : ∀ sm : Bool, sm = (true) → True → W Tryz.call (flatK [.celln 2 7, .tmp 3] (parseR s)) (.block 0 :: [.code (.seq (.seq (.seq (.reg Tryz.fn40_r20)
   (.trim [2, 6, 8, 73, 75, 77, 79, 81, 82]))
  (.seq (.reg Tryz.fn40_r21)
  (.trim [2, 8, 14])))
 (.seq (.seq (.seq (.reg Tryz.fn40_r22)
   (.trim [2, 14, 92]))
  (.cond (.t 92)
   (.seq (.seq (.reg Tryz.fn40_r23)
    (.trim [2, 3]))
   .ret)
   .skip))
 (.seq (.seq (.reg Tryz.fn40_r24)
  (.trim [2, 3]))
 .ret)))]) [(2, .ptr 8 0), (4, .sl 9 0 1 7 (some 7)), (5, .int .i64 ((k : Int) + 1)), (6, .str r), (8, .bool sm), (9, .ptr 11 0), (49, .int .i64 0)] ⟨[(11, ⟨[.int .i64 0, .int .i64 0, .int .i64 0, .int .i64 0, .int .i64 0], false, 99, true, true⟩), (10, kindBlk), (9, ⟨[.str w0, .str w1, .str w2, .str w3, .str w4, .str w5, .str w6], false, 9, false, true⟩), (8, ⟨[.int .i64 0, .int .i64 0, .int .i64 0, .int .i64 0, .int .i64 0, .str [], .int .i64 0], false, 40, true, true⟩)], 12, 8⟩ L := by
        intro sm hsm hall
        refine W_loopN hL ?_
        simp only [Tryz.fn40_l0, Tryz.fn40_r11, AmR, kp, pushA, exe, Arg.val, Env.at, lk, putd, okM, abin, Option.getD_some, if_true, if_false, Nat.reduceEqDiff, decide_true, Int.reduceLT]
        simp only [Tryz.fn40_r12, AmR, kp, exe, Arg.val, Env.at, lk, putd, ok1, Option.getD_some, if_true, if_false, Nat.reduceEqDiff]
        simp only [Tryz.fn40_r13, q1, hn1, AmR, kp, exe, Arg.val, Env.at, lk, putd, ok1, okM, AH.get, abin, Option.getD_some, if_true, if_false, List.getElem?_cons_zero, List.getElem?_cons_succ, Nat.reduceEqDiff, Nat.reduceAdd, Nat.reduceMul, and_true, List.map_cons, List.map_nil, Int.reduceLT, Int.reduceLE, Int.reduceAdd, Int.reduceToNat, Int.cast_ofNat_Int]
        simp only [Tryz.fn40_r14, AmR, kp, exe, Arg.val, Env.at, lk, putd, ok1, Option.getD_some, if_true, if_false, Nat.reduceEqDiff]
        cases hb : i1 with
        | false =>
          rw [fin4 (fnum w1 (by simp) (by rw [← hs1, hb]))]
          simp only [Tryz.fn40_r15, Tryz.fn40_r16, AmR, kp, pushA, exe, Arg.val, Env.at, lk, putd, AV.cells?, ok1, okM, AH.get, Option.getD_some, if_true, if_false, Bool.not_false, Nat.reduceEqDiff, Nat.reduceAdd, Nat.reduceLT, Bool.false_eq_true, resAll, resOf, and_true, Nat.reduceLeDiff, aun, List.map_nil, AH.cellsAt, AH.store, AH.put, rpl, putAt, solid, List.all_cons, List.all_nil, Bool.and_self, List.length_cons, List.length_nil, List.drop_zero, List.take_succ_cons, List.take_zero, Option.map_some, afill, List.set_cons_zero, List.set_cons_succ]
        | true =>
          have nx := L1 (sm && f1) (by rw [hsm]; rfl) (by exact hb)
          clear hsm
          cases sm with
          | false =>
            simp only [Bool.false_and] at nx
            simp only [Tryz.fn40_r15, AmR, kp, pushA, exe, Arg.val, Env.at, lk, putd, ok1, okM, Option.getD_some, if_true, if_false, Bool.not_true, Nat.reduceEqDiff, aun]
            simp only [Tryz.fn40_r17, AmR, kp, exe, Arg.val, Env.at, lk, putd, AV.cells?, ok1, AH.get, Option.getD_some, if_true, if_false, Nat.reduceEqDiff, Nat.reduceAdd, Nat.reduceMul, Nat.reduceLT, Bool.false_eq_true, and_true, Nat.reduceLeDiff, AH.store, AH.put, rpl, putAt, solid, List.all_cons, List.all_nil, Bool.and_self, List.length_cons, List.length_nil, Option.map_some, Int.reduceLT, Int.reduceLE, Int.reduceToNat, List.set_cons_zero, Int.cast_ofNat_Int]
            simp only [Tryz.fn40_r18, AmR, kp, exe, Arg.val, Env.at, lk, putd, ok1, Option.getD_some, if_true, if_false, Nat.reduceEqDiff, Bool.false_eq_true]
            simp only [Tryz.fn40_r19, q1, AmR, kp, exe, Arg.val, Env.at, lk, putd, ok1, okM, abin, Option.getD_some, if_true, if_false, Nat.reduceEqDiff, Int.reduceAdd]
            exact nx
          | true =>
            simp only [Bool.true_and] at nx
            simp only [Tryz.fn40_r15, AmR, kp, pushA, exe, Arg.val, Env.at, lk, putd, ok1, okM, Option.getD_some, if_true, if_false, Bool.not_true, Nat.reduceEqDiff, aun]
            simp only [Tryz.fn40_r17, AmR, kp, exe, Arg.val, Env.at, lk, putd, AV.cells?, ok1, AH.get, Option.getD_some, if_true, if_false, Nat.reduceEqDiff, Nat.reduceAdd, Nat.reduceMul, Nat.reduceLT, Bool.false_eq_true, and_true, Nat.reduceLeDiff, AH.store, AH.put, rpl, putAt, solid, List.all_cons, List.all_nil, Bool.and_self, List.length_cons, List.length_nil, Option.map_some, Int.reduceLT, Int.reduceLE, Int.reduceToNat, List.set_cons_zero, Int.cast_ofNat_Int]
            simp only [Tryz.fn40_r18, AmR, kp, exe, Arg.val, Env.at, lk, putd, ok1, Option.getD_some, if_true, if_false, Nat.reduceEqDiff]
            simp only [Tryz.fn40_r19, q1, AmR, kp, exe, Arg.val, Env.at, lk, putd, ok1, okM, abin, Option.getD_some, if_true, if_false, Nat.reduceEqDiff, Int.reduceAdd]
            exact nx
      simp only [Tryz.fn40_r8, AmR, kp, exe, Arg.val, Env.at, lk, putd, ok1, Option.getD_some, if_true, if_false, Nat.reduceEqDiff]
      simp only [Tryz.fn40_r9, AmR, kp, exe, Env.at, lk, putd, ok1, AH.push, Option.getD_some, if_true, if_false, Nat.reduceEqDiff, Nat.reduceAdd]
      simp only [Tryz.fn40_r10, AmR, kp, exe, Arg.val, Env.at, lk, putd, ok1, Option.getD_some, if_true, if_false, Nat.reduceEqDiff]
      rw [← hL]
      exact L0 true rfl trivial
    case _ =>
      rw [fin4 (fq fun d h => h6 (by rw [h, hq1 d h]))]
      simp only [Tryz.fn40_r7, AmR, kp, exe, Arg.val, Env.at, lk, putd, AV.cells?, ok1, okM, AH.get, Option.getD_some, if_true, if_false, Nat.reduceEqDiff, Nat.reduceAdd, Nat.reduceLT, Bool.false_eq_true, resAll, resOf, and_true, Nat.reduceLeDiff, List.map_nil, AH.cellsAt, AH.store, AH.put, rpl, putAt, solid, List.all_cons, List.all_nil, Bool.and_self, List.length_cons, List.length_nil, List.drop_zero, List.take_succ_cons, List.take_zero, Option.map_some, afill, List.set_cons_zero, List.set_cons_succ]

end Go.Am

/- EventParses and EventRoundTrips on the machine. Conditions: none. -/
namespace Go.Am

theorem parseR_shape (s : List UInt8) : ∃ (y : Ev) (c : Int), parseR s = [y.av, .int .i64 c] ∧ (c = 0 → y.ok = true ∧ lineL y = s) := by
  cases h : readL s with
  | none => exact ⟨evNil, 4, parseR_none h, fun h => absurd h (by decide)⟩
  | some x =>
    cases hx : x.ok with
    | true => exact ⟨x, 0, by rw [parseR_some h, hx, if_pos rfl], fun _ => ⟨hx, (readL_some h).1.symm⟩⟩
    | false => exact ⟨evNil, 2, by rw [parseR_some h, hx, if_neg (by decide)], fun h => absurd h (by decide)⟩

theorem parseR_line {x : Ev} (h : x.ok = true) : parseR (lineL x) = [x.av, .int .i64 0] := by
  have h' := h
  rw [Ev.ok_iff] at h'
  rw [parseR_some (readL_line quoteL_inj h'.1 h'.2.1), if_pos h]

end Go.Am
