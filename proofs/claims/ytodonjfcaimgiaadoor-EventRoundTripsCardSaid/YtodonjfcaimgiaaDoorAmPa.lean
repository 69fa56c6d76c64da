/-
What a line of an event says, in plain words. Conditions: none.
-/
import Derived.Test.YtodonjfcaimgiaaDoorAmKj
import Derived.Lib.IndexBytes
import Derived.Lib.IndexLaws
import Derived.Lib.SplitLaws
set_option linter.unusedSimpArgs false
set_option linter.unusedVariables false
namespace Go.Am

/-! ### The first of a byte -/

theorem first_of (c : UInt8) : ∀ s : List UInt8, c ∉ s ∨ ∃ w r, s = w ++ c :: r ∧ c ∉ w
  | [] => .inl (by simp)
  | b :: s => by
    by_cases hb : b = c
    · subst hb; exact .inr ⟨[], s, rfl, by simp⟩
    · rcases first_of c s with h | ⟨w, r, h, hw⟩
      · refine .inl ?_
        simp only [List.mem_cons, not_or]
        exact ⟨Ne.symm hb, h⟩
      · refine .inr ⟨b :: w, r, by rw [h]; rfl, ?_⟩
        simp only [List.mem_cons, not_or]
        exact ⟨Ne.symm hb, hw⟩

theorem indexByte_miss {c : UInt8} : ∀ {s : List UInt8}, c ∉ s → Lib.indexByte s c = -1
  | [], _ => rfl
  | b :: s, h => by
    simp only [List.mem_cons, not_or] at h
    unfold Lib.indexByte
    rw [if_neg (by simpa using Ne.symm h.1), indexByte_miss h.2]
    rfl
theorem indexByte_hit {c : UInt8} : ∀ {w : List UInt8} (r : List UInt8), c ∉ w → Lib.indexByte (w ++ c :: r) c = w.length
  | [], r, _ => by simp [Lib.indexByte]
  | b :: w, r, h => by
    simp only [List.mem_cons, not_or] at h
    rw [List.cons_append]
    unfold Lib.indexByte
    rw [if_neg (by simpa using Ne.symm h.1), indexByte_hit r h.2, if_neg (by simp)]
    simp

theorem take_hit (w : List UInt8) (c : UInt8) (r : List UInt8) : (w ++ c :: r).take w.length = w := by simp
theorem drop_hit (w : List UInt8) (c : UInt8) (r : List UInt8) : (w ++ c :: r).drop (w.length + 1) = r := by
  rw [List.drop_append]; simp

/-- The bytes before the first blank, and those after it. -/
def wordO (s : List UInt8) : Option (List UInt8 × List UInt8) := if Lib.indexByte s 32 < 0 then none else some (s.take (Lib.indexByte s 32).toNat, s.drop ((Lib.indexByte s 32).toNat + 1))

theorem wordO_miss {s : List UInt8} (h : (32 : UInt8) ∉ s) : wordO s = none := by
  unfold wordO
  rw [indexByte_miss h, if_pos (by decide)]
theorem wordO_hit {w : List UInt8} (r : List UInt8) (h : (32 : UInt8) ∉ w) : wordO (w ++ 32 :: r) = some (w, r) := by
  unfold wordO
  rw [indexByte_hit r h, if_neg (by omega), Int.toNat_natCast, take_hit, drop_hit]
theorem wordO_some {s w r : List UInt8} (h : wordO s = some (w, r)) : s = w ++ 32 :: r ∧ (32 : UInt8) ∉ w := by
  rcases first_of 32 s with h0 | ⟨w', r', rfl, hw⟩
  · rw [wordO_miss h0] at h; cases h
  · rw [wordO_hit r' hw, Option.some.injEq, Prod.mk.injEq] at h
    obtain ⟨rfl, rfl⟩ := h
    exact ⟨rfl, hw⟩
theorem wordO_len {s w r : List UInt8} (h : wordO s = some (w, r)) : w.length + r.length + 1 = s.length := by
  obtain ⟨rfl, _⟩ := wordO_some h
  rw [List.length_append, List.length_cons]; omega

/-- The words before the first k blanks, and what follows. -/
def cutN : Nat → List UInt8 → List (List UInt8)
  | 0, s => [s]
  | k + 1, s => match wordO s with
    | none => [s]
    | some (w, r) => w :: cutN k r

theorem cutN_long : ∀ (k j : Nat) (s : List UInt8), s.length ≤ k → s.length ≤ j → cutN k s = cutN j s
  | 0, j, s, hk, hj => by
    have : s = [] := List.length_eq_zero_iff.1 (by omega)
    subst this
    cases j <;> rfl
  | k + 1, 0, s, hk, hj => by
    have : s = [] := List.length_eq_zero_iff.1 (by omega)
    subst this
    rfl
  | k + 1, j + 1, s, hk, hj => by
    unfold cutN
    cases h : wordO s with
    | none => rfl
    | some p =>
      obtain ⟨w, r⟩ := p
      have := wordO_len h
      dsimp only
      rw [cutN_long k j r (by omega) (by omega)]

theorem splitK_cut : ∀ (k : Nat) (s : List UInt8), Lib.splitK [32] 0 k s = cutN k s
  | 0, s => rfl
  | k + 1, s => by
    have ih := splitK_cut k
    rw [Lib.splitK, Lib.index_one]
    unfold cutN
    rcases first_of 32 s with h | ⟨w, r, rfl, hw⟩
    · rw [indexByte_miss h, wordO_miss h]; rfl
    · rw [indexByte_hit r hw, wordO_hit r hw, if_neg (by simp)]
      simp only [Int.toNat_natCast, Nat.add_zero, List.length_singleton, take_hit, drop_hit, ih]

theorem splitN_cut (s : List UInt8) : Lib.splitN s [32] 7 = cutN 6 s := by
  unfold Lib.splitN
  rw [splitK_cut]
  by_cases h : 6 ≤ s.length
  · rw [show min 7 (s.length + 1) - 1 = 6 by omega]
  · exact cutN_long _ _ _ (by omega) (by omega)

theorem cutN_le : ∀ (k : Nat) (s : List UInt8), 1 ≤ (cutN k s).length ∧ (cutN k s).length ≤ k + 1 ∧ (cutN k s).length ≤ s.length + 1
  | 0, s => by simp [cutN]
  | k + 1, s => by
    unfold cutN
    cases h : wordO s with
    | none => simp
    | some p =>
      obtain ⟨w, r⟩ := p
      have h1 := wordO_len h
      have h2 := cutN_le k r
      simp only [List.length_cons]
      omega

/-! ### Numbers -/

def dig8 (c : UInt8) : Bool := decide (48 ≤ c.toNat ∧ c.toNat ≤ 57)
/-- The value of digits. -/
def val (s : List UInt8) : Nat := s.foldl (fun n c => 10 * n + (c.toNat - 48)) 0
theorem val_snoc (s : List UInt8) (c : UInt8) : val (s ++ [c]) = 10 * val s + (c.toNat - 48) := by simp [val]
theorem val_step {s : List UInt8} {i : Nat} {c : UInt8} (h : s[i]? = some c) : val (s.take (i + 1)) = 10 * val (s.take i) + (c.toNat - 48) := by
  rw [List.take_add_one, h, Option.toList_some, val_snoc]
theorem foldl_ge : ∀ (s : List UInt8) (n : Nat), n ≤ s.foldl (fun n c => 10 * n + (c.toNat - 48)) n
  | [], n => Nat.le_refl _
  | c :: s, n => Nat.le_trans (by omega) (foldl_ge s (10 * n + (c.toNat - 48)))
theorem val_take_le (s : List UInt8) (i : Nat) : val (s.take i) ≤ val s := by
  have h : val s = (s.drop i).foldl (fun n c => 10 * n + (c.toNat - 48)) (val (s.take i)) := by
    unfold val
    rw [← List.foldl_append, List.take_append_drop]
  rw [h]
  exact foldl_ge _ _

theorem head_app (r : List UInt8) {l : List UInt8} (h : l ≠ []) : (l ++ r).head? = l.head? := by
  cases l with
  | nil => exact absurd rfl h
  | cons a l => rfl

theorem dec_small {u : Nat} (h : u < 10) : Lib.decDigits u = [UInt8.ofNat (48 + u)] := by rw [Lib.decDigits, dif_pos h]
theorem dec_big {u : Nat} (h : ¬ u < 10) : Lib.decDigits u = Lib.decDigits (u / 10) ++ [UInt8.ofNat (48 + u % 10)] := by rw [Lib.decDigits, dif_neg h]

theorem dg_nat {u : Nat} (h : u < 10) : (UInt8.ofNat (48 + u)).toNat = 48 + u := by
  rw [UInt8.toNat_ofNat']
  exact Nat.mod_eq_of_lt (by omega)
theorem dg_dig8 {u : Nat} (h : u < 10) : dig8 (UInt8.ofNat (48 + u)) = true := by
  unfold dig8
  rw [dg_nat h]
  exact decide_eq_true (by omega)

theorem dec_digits (u : Nat) : (Lib.decDigits u).all dig8 = true ∧ val (Lib.decDigits u) = u ∧ Lib.decDigits u ≠ [] ∧ (1 ≤ u → (Lib.decDigits u).head? ≠ some 48) := by
  induction u using Nat.strongRecOn with
  | ind u ih =>
    by_cases h : u < 10
    · rw [dec_small h]
      refine ⟨by simp only [List.all_cons, List.all_nil, Bool.and_true, dg_dig8 h], ?_, by simp, fun h1 => ?_⟩
      · have := val_snoc [] (UInt8.ofNat (48 + u))
        rw [List.nil_append] at this
        rw [this, dg_nat h]
        simp [val]
      · simp only [List.head?_cons, ne_eq, Option.some.injEq]
        intro e
        have := congrArg UInt8.toNat e
        rw [dg_nat h] at this
        have h48 : (48 : UInt8).toNat = 48 := rfl
        omega
    · obtain ⟨h1, h2, h3, h4⟩ := ih (u / 10) (by omega)
      rw [dec_big h]
      have hm : u % 10 < 10 := Nat.mod_lt _ (by omega)
      refine ⟨?_, ?_, by simp, fun _ => ?_⟩
      · rw [List.all_append, h1]; simp only [List.all_cons, List.all_nil, Bool.and_true, dg_dig8 hm]
      · rw [val_snoc, h2, dg_nat hm]; omega
      · rw [head_app _ h3]
        exact h4 (by omega)

theorem dec_val (d : List UInt8) : d ≠ [] → d.all dig8 = true → (d.length = 1 ∨ d.head? ≠ some 48) → Lib.decDigits (val d) = d := by
  rw [← List.reverse_reverse d]
  generalize d.reverse = r
  induction r with
  | nil => intro h; simp at h
  | cons c r ih =>
    intro _ hd hh
    rw [List.reverse_cons] at hd hh ⊢
    rw [List.all_append] at hd
    simp only [List.all_cons, List.all_nil, Bool.and_true, Bool.and_eq_true] at hd
    obtain ⟨hd1, hc⟩ := hd
    have hc' := hc
    unfold dig8 at hc'
    rw [decide_eq_true_iff] at hc'
    rw [val_snoc]
    have hcc : UInt8.ofNat (48 + (c.toNat - 48)) = c := by
      rw [show 48 + (c.toNat - 48) = c.toNat by omega]
      exact UInt8.ofNat_toNat
    by_cases hr : r = []
    · subst hr
      simp only [List.reverse_nil, List.nil_append]
      have : val [] = 0 := rfl
      rw [this, Nat.mul_zero, Nat.zero_add, dec_small (by omega), hcc]
    · have hrn : r.reverse ≠ [] := by simpa using hr
      have hh2 : r.reverse.head? ≠ some 48 := by
        rcases hh with h | h
        · rw [List.length_append] at h
          have : 0 < r.reverse.length := List.length_pos_iff.2 hrn
          simp only [List.length_singleton] at h
          omega
        · rwa [head_app _ hrn] at h
      have hi := ih hrn hd1 (.inr hh2)
      have hv : 1 ≤ val r.reverse := by
        rcases Nat.eq_zero_or_pos (val r.reverse) with h | h
        · rw [h] at hi
          rw [← hi, dec_small (by omega)] at hh2
          exact absurd rfl hh2
        · exact h
      rw [dec_big (by omega), show (10 * val r.reverse + (c.toNat - 48)) / 10 = val r.reverse by omega, show (10 * val r.reverse + (c.toNat - 48)) % 10 = c.toNat - 48 by omega, hi, hcc]

theorem dig8_not {c : UInt8} (h : dig8 c = true) : c ≠ 32 ∧ c ≠ 45 := by
  constructor
  · rintro rfl; revert h; decide
  · rintro rfl; revert h; decide
theorem digits_not {d : List UInt8} (h : d.all dig8 = true) : (32 : UInt8) ∉ d ∧ (45 : UInt8) ∉ d := by
  rw [List.all_eq_true] at h
  exact ⟨fun hm => (dig8_not (h _ hm)).1 rfl, fun hm => (dig8_not (h _ hm)).2 rfl⟩

/-- The digits of a number. -/
def magS (s : List UInt8) : List UInt8 := if s.head? = some 45 then s.tail else s
/-- The number that a word says. -/
def numZ (s : List UInt8) : Option Int :=
  if magS s = [] ∨ ((magS s).head? = some 48 ∧ s ≠ [48]) then none
  else if (magS s).all dig8 = true then some (if s.head? = some 45 then -(val (magS s) : Int) else val (magS s)) else none

theorem magS_minus (d : List UInt8) : magS (45 :: d) = d := rfl
theorem magS_plain {d : List UInt8} (h : d.head? ≠ some 45) : magS d = d := if_neg h

theorem dec_head (u : Nat) : (Lib.decDigits u).head? ≠ some 45 := by
  obtain ⟨h1, _, h3, _⟩ := dec_digits u
  intro h
  exact (digits_not h1).2 (List.mem_of_mem_head? h)

theorem numZ_itoa (n : Int) : numZ (Lib.itoa n) = some n := by
  unfold Lib.itoa
  by_cases hn : n < 0
  · rw [if_pos hn]
    obtain ⟨h1, h2, h3, h4⟩ := dec_digits n.natAbs
    unfold numZ
    have e : (45 : UInt8) :: Lib.decDigits n.natAbs = 45 :: Lib.decDigits n.natAbs := rfl
    rw [magS_minus, if_neg, if_pos h1, if_pos (List.head?_cons ..), h2]
    · congr 1; omega
    · rintro (h | ⟨h, _⟩)
      · exact h3 h
      · exact h4 (by omega) h
  · rw [if_neg hn]
    obtain ⟨h1, h2, h3, h4⟩ := dec_digits n.toNat
    unfold numZ
    rw [magS_plain (dec_head _), if_neg, if_pos h1, if_neg (dec_head _), h2]
    · congr 1; omega
    · rintro (h | ⟨h, h0⟩)
      · exact h3 h
      · by_cases hu : 1 ≤ n.toNat
        · exact h4 hu h
        · have : n.toNat = 0 := by omega
          rw [this, dec_small (by omega)] at h0
          exact h0 rfl

theorem numZ_some {w : List UInt8} {v : Int} (h : numZ w = some v) : w = Lib.itoa v := by
  unfold numZ at h
  split at h
  · cases h
  · rename_i h1
    split at h
    · rename_i h2
      rw [Option.some.injEq] at h
      by_cases h45 : w.head? = some 45
      · obtain ⟨d, rfl⟩ : ∃ d, w = 45 :: d := by
          cases w with
          | nil => cases h45
          | cons a l => rw [List.head?_cons, Option.some.injEq] at h45; exact ⟨l, by rw [h45]⟩
        rw [if_pos h45] at h
        rw [magS_minus] at h1 h2 h
        have hne : d ≠ [] := fun e => h1 (.inl e)
        have hh : d.head? ≠ some 48 := fun e => h1 (.inr ⟨e, by simp⟩)
        have hv := dec_val d hne h2 (.inr hh)
        have hp : 1 ≤ val d := by
          rcases Nat.eq_zero_or_pos (val d) with h | h
          · rw [h, dec_small (by omega)] at hv
            rw [← hv] at hh
            exact absurd rfl hh
          · exact h
        unfold Lib.itoa
        rw [if_pos (by omega), show v.natAbs = val d by omega, hv]
      · rw [if_neg h45] at h
        rw [magS_plain h45] at h1 h2 h
        have hne : w ≠ [] := fun e => h1 (.inl e)
        have hh : w.length = 1 ∨ w.head? ≠ some 48 := by
          by_cases e : w.head? = some 48
          · have : w = [48] := Classical.byContradiction fun hw => h1 (.inr ⟨e, hw⟩)
            exact .inl (by rw [this]; rfl)
          · exact .inr e
        have hv := dec_val w hne h2 hh
        unfold Lib.itoa
        rw [if_neg (by omega), show v.toNat = val w by omega, hv]
    · cases h

/-! ### Names, quoted strings -/

def idx (w : List UInt8) : List (List UInt8) → Nat → Option Nat
  | [], _ => none
  | x :: xs, i => if x = w then some i else idx w xs (i + 1)

theorem idx_some {w : List UInt8} : ∀ {xs : List (List UInt8)} {i q : Nat}, idx w xs i = some q → i ≤ q ∧ xs[q - i]? = some w
  | [], i, q, h => by cases h
  | x :: xs, i, q, h => by
    unfold idx at h
    split at h
    · rename_i e
      rw [Option.some.injEq] at h
      subst h
      rw [e, Nat.sub_self]
      exact ⟨Nat.le_refl _, rfl⟩
    · obtain ⟨h1, h2⟩ := idx_some h
      refine ⟨by omega, ?_⟩
      rw [show q - i = (q - (i + 1)) + 1 by omega]
      exact h2

theorem kind_idx {k : Int} (h1 : 1 ≤ k) (h2 : k ≤ 8) : idx (kindName k) kindNames 0 = some (k - 1).toNat := by
  have : k = 1 ∨ k = 2 ∨ k = 3 ∨ k = 4 ∨ k = 5 ∨ k = 6 ∨ k = 7 ∨ k = 8 := by omega
  rcases this with rfl | rfl | rfl | rfl | rfl | rfl | rfl | rfl <;> decide
theorem idx_kind {w : List UInt8} {q : Nat} (h : idx w kindNames 0 = some q) : q < 8 ∧ w = kindName ((q : Int) + 1) := by
  obtain ⟨_, h2⟩ := idx_some h
  rw [Nat.sub_zero] at h2
  have hq : q < 8 := by
    by_cases hq : q < 8
    · exact hq
    · rw [List.getElem?_eq_none (by show 8 ≤ q; omega)] at h2; cases h2
  refine ⟨hq, ?_⟩
  unfold kindName
  rw [show ((q : Int) + 1 - 1).toNat = q by omega, List.getD_eq_getElem?_getD, h2]
  rfl

open Classical in
/-- The string that a word quotes. -/
noncomputable def unqL (w : List UInt8) : Option (List UInt8) := if h : ∃ d, w = quoteL d then some (Classical.choose h) else none
theorem unqL_some {w d : List UInt8} (h : unqL w = some d) : w = quoteL d := by
  unfold unqL at h
  split at h
  · rename_i hd
    rw [Option.some.injEq] at h
    rw [← h]
    exact Classical.choose_spec hd
  · cases h
theorem unqL_none {w : List UInt8} (h : unqL w = none) (d : List UInt8) : w ≠ quoteL d := fun e => by
  unfold unqL at h
  rw [dif_pos ⟨d, e⟩] at h
  cases h

/-- The first k numbers of a line, and what follows. -/
def numsL : Nat → List UInt8 → Option (List Int × List UInt8)
  | 0, s => some ([], s)
  | k + 1, s => (wordO s).bind fun p => (numZ p.1).bind fun z => (numsL k p.2).map fun q => (z :: q.1, q.2)

/-- The event of a line. -/
noncomputable def readL (s : List UInt8) : Option Ev :=
  (wordO s).bind fun p => (idx p.1 kindNames 0).bind fun k => (numsL 5 p.2).bind fun q => (unqL q.2).bind fun d => match q.1 with
    | [a, b, c, e, f] => some ⟨(k : Int) + 1, a, b, c, e, d, f⟩
    | _ => none

theorem numsL_some : ∀ {k : Nat} {s : List UInt8} {l : List Int} {r : List UInt8}, numsL k s = some (l, r) → l.length = k ∧ s = l.foldr (fun z t => Lib.itoa z ++ 32 :: t) r
  | 0, s, l, r, h => by
    simp only [numsL, Option.some.injEq, Prod.mk.injEq] at h
    obtain ⟨rfl, rfl⟩ := h
    exact ⟨rfl, rfl⟩
  | k + 1, s, l, r, h => by
    unfold numsL at h
    obtain ⟨p, hp, h⟩ := Option.bind_eq_some_iff.1 h
    obtain ⟨z, hz, h⟩ := Option.bind_eq_some_iff.1 h
    obtain ⟨q, hq, h⟩ := Option.map_eq_some_iff.1 h
    obtain ⟨w, t⟩ := p
    obtain ⟨l', r'⟩ := q
    simp only [Prod.mk.injEq] at h
    obtain ⟨rfl, rfl⟩ := h
    obtain ⟨h1, h2⟩ := numsL_some hq
    have h3 := (wordO_some hp).1
    have h4 := numZ_some hz
    refine ⟨by simp [h1], ?_⟩
    dsimp only at h2 h4
    rw [h3, h4, List.foldr_cons, ← h2]

theorem readL_some {s : List UInt8} {x : Ev} (h : readL s = some x) : s = lineL x ∧ 1 ≤ x.k ∧ x.k ≤ 8 := by
  unfold readL at h
  obtain ⟨p, hp, h⟩ := Option.bind_eq_some_iff.1 h
  obtain ⟨k, hk, h⟩ := Option.bind_eq_some_iff.1 h
  obtain ⟨q, hq, h⟩ := Option.bind_eq_some_iff.1 h
  obtain ⟨d, hd, h⟩ := Option.bind_eq_some_iff.1 h
  obtain ⟨w, t⟩ := p
  obtain ⟨l, r⟩ := q
  dsimp only at hk hq hd h
  split at h
  · rename_i a b c e f
    rw [Option.some.injEq] at h
    subst h
    have h1 := (wordO_some hp).1
    obtain ⟨hk8, hw⟩ := idx_kind hk
    obtain ⟨_, h2⟩ := numsL_some hq
    have h3 := unqL_some hd
    refine ⟨?_, by dsimp only; omega, by dsimp only; omega⟩
    rw [lineL_eq, h1, hw, h2, h3]
    simp
  · cases h

theorem itoa_not (n : Int) : (32 : UInt8) ∉ Lib.itoa n := by
  unfold Lib.itoa
  split
  · have := (digits_not (dec_digits n.natAbs).1).1
    simp only [List.mem_cons, List.mem_append, List.not_mem_nil, or_false, not_or]
    exact ⟨by decide, this⟩
  · exact (digits_not (dec_digits n.toNat).1).1

theorem kindName_not (k : Int) : (32 : UInt8) ∉ kindName k := by
  have : ∀ n : Fin 8, (32 : UInt8) ∉ kindNames.getD n.val [] := by decide
  unfold kindName
  by_cases h : (k - 1).toNat < 8
  · exact this ⟨_, h⟩
  · rw [List.getD_eq_getElem?_getD, List.getElem?_eq_none (by show 8 ≤ _; omega)]; simp

theorem numsL_itoa : ∀ (l : List Int) (r : List UInt8), numsL l.length (l.foldr (fun z t => Lib.itoa z ++ 32 :: t) r) = some (l, r)
  | [], r => rfl
  | z :: l, r => by
    rw [List.foldr_cons, List.length_cons, numsL, wordO_hit _ (itoa_not z), Option.bind_some]
    dsimp only
    rw [numZ_itoa, Option.bind_some, numsL_itoa l r]
    rfl

theorem readL_line {x : Ev} (hq : ∀ d d', quoteL d = quoteL d' → d = d') (h1 : 1 ≤ x.k) (h2 : x.k ≤ 8) : readL (lineL x) = some x := by
  have e : lineL x = kindName x.k ++ 32 :: ([x.f, x.t, x.v, x.a, x.ft].foldr (fun z t => Lib.itoa z ++ 32 :: t) (quoteL x.d)) := by
    rw [lineL_eq]; simp
  have hu : unqL (quoteL x.d) = some x.d := by
    cases h : unqL (quoteL x.d) with
    | none => exact absurd rfl (unqL_none h x.d)
    | some d => rw [hq _ _ (unqL_some h)]
  have hn := numsL_itoa [x.f, x.t, x.v, x.a, x.ft] (quoteL x.d)
  unfold readL
  rw [e, wordO_hit _ (kindName_not _), Option.bind_some]
  dsimp only
  rw [kind_idx h1 h2, Option.bind_some]
  rw [show [x.f, x.t, x.v, x.a, x.ft].length = 5 from rfl] at hn
  rw [hn, Option.bind_some]
  dsimp only
  rw [hu, Option.bind_some]
  rw [show (((x.k - 1).toNat : Nat) : Int) + 1 = x.k by omega]

end Go.Am
