/-
What a text of a project says, in plain words. Conditions: none.
-/
import Derived.Test.YthknkijoiloinaaDoorAmQ
import Derived.Lib.IndexBytes
import Derived.Lib.IndexLaws
import Derived.Lib.SplitLaws
set_option linter.unusedSimpArgs false
set_option linter.unusedVariables false
namespace Go.Am

/-- Where a line ends. -/
def lf (s : List UInt8) : Int := Lib.indexByte s 10

theorem lf_cases (s : List UInt8) : lf s = -1 ∨ ∃ i : Nat, lf s = i ∧ i < s.length := by
  induction s with
  | nil => exact .inl rfl
  | cons b s ih =>
    unfold lf at ih ⊢
    unfold Lib.indexByte
    by_cases hb : (b == 10) = true
    · rw [if_pos hb]; exact .inr ⟨0, rfl, by simp⟩
    · rw [if_neg hb]
      rcases ih with h | ⟨i, h, hi⟩
      · rw [h]; exact .inl rfl
      · rw [h]
        refine .inr ⟨i + 1, ?_, by simp; omega⟩
        rw [if_neg (by simp)]; rfl

/-- The length of the first n lines. -/
def linesLen : Nat → List UInt8 → Option Nat
  | 0, _ => some 0
  | n + 1, s => if lf s < 0 then none else (linesLen n (s.drop ((lf s).toNat + 1))).map (· + ((lf s).toNat + 1))

theorem linesLen_le : ∀ {n : Nat} {s : List UInt8} {r : Nat}, linesLen n s = some r → r ≤ s.length ∧ n ≤ r
  | 0, s, r, h => by simp only [linesLen, Option.some.injEq] at h; omega
  | n + 1, s, r, h => by
    unfold linesLen at h
    split at h
    · cases h
    · obtain ⟨q, hq, rfl⟩ := Option.map_eq_some_iff.1 h
      obtain ⟨h1, h2⟩ := linesLen_le hq
      rcases lf_cases s with h3 | ⟨i, h3, hi⟩
      · omega
      · rw [List.length_drop] at h1; rw [h3] at h1 ⊢; simp only [Int.toNat_natCast] at h1 ⊢; omega

theorem linesLen_none {n : Nat} {s : List UInt8} (h : s.length < n) : linesLen n s = none := by
  cases hr : linesLen n s with
  | none => rfl
  | some r => have := linesLen_le hr; omega

theorem linesLen_min {n M : Nat} {s : List UInt8} (h : s.length < M) : linesLen (min n M) s = linesLen n s := by
  by_cases hn : n ≤ M
  · rw [Nat.min_eq_left hn]
  · rw [Nat.min_eq_right (by omega), linesLen_none h, linesLen_none (by omega)]

def dig8 (c : UInt8) : Bool := decide (48 ≤ c.toNat ∧ c.toNat ≤ 57)
/-- The value of digits. -/
def val (s : List UInt8) : Nat := s.foldl (fun n c => 10 * n + (c.toNat - 48)) 0
theorem val_snoc (s : List UInt8) (c : UInt8) : val (s ++ [c]) = 10 * val s + (c.toNat - 48) := by simp [val]
theorem val_step {s : List UInt8} {i : Nat} {c : UInt8} (h : s[i]? = some c) : val (s.take (i + 1)) = 10 * val (s.take i) + (c.toNat - 48) := by
  rw [List.take_add_one, h, Option.toList_some, val_snoc]
theorem foldl_ge : ∀ (s : List UInt8) (n : Nat), n ≤ s.foldl (fun n c => 10 * n + (c.toNat - 48)) n
  | [], n => Nat.le_refl _
  | c :: s, n => Nat.le_trans (by omega) (foldl_ge s (10 * n + (c.toNat - 48)))
theorem val_take_le (s : List UInt8) (i : Nat) : val (s.take i) ≤ val s := by
  have h : val s = (s.drop i).foldl (fun n c => 10 * n + (c.toNat - 48)) (val (s.take i)) := by
    unfold val
    rw [← List.foldl_append, List.take_append_drop]
  rw [h]
  exact foldl_ge _ _

/-- The number of lines that a word says. -/
def numL (s : List UInt8) : Option Nat := if s = [] ∨ (1 < s.length ∧ s.head? = some 48) then none else if s.all dig8 = true then some (val s) else none

/-- The words of a line. -/
def wordsL (s : List UInt8) : List (List UInt8) := Lib.splitK [32] 0 (Lib.countB ⟨s.toArray⟩ ⟨#[32]⟩) s

/-- What the first line of a section says. -/
def headL (s : List UInt8) : Option (List UInt8 × List UInt8 × Nat) :=
  match wordsL s with
  | [a, b, c, d] => if a = [61, 61] ∧ kindB b = true ∧ nameB c = true then (numL d).map fun v => (b, c, v) else none
  | _ => none

/-- The first section of a text, the number of its lines, and what follows. -/
def secL (s : List UInt8) : Option (Sec × Nat × List UInt8) :=
  if lf s < 0 then none else
    match headL (s.take (lf s).toNat) with
    | none => none
    | some (k, n, v) => match linesLen v (s.drop ((lf s).toNat + 1)) with
      | none => none
      | some r => some (⟨k, n, (s.drop ((lf s).toNat + 1)).take r⟩, v, (s.drop ((lf s).toNat + 1)).drop r)

/-- The sections of a text behind those of l, the line of the first error, the error. -/
def parseF : Nat → List UInt8 → List Sec → Nat → List Sec × Nat × Int
  | 0, _, l, _ => (l, 0, 0)
  | f + 1, s, l, line => if s = [] then (l, 0, 0) else
    match secL s with
    | none => ([], line, 4)
    | some (x, v, r) => parseF f r (l ++ [x]) (line + v + 1)
def parseL (s : List UInt8) : List Sec × Nat × Int := parseF s.length s [] 1

theorem secL_len {s : List UInt8} {x : Sec} {v : Nat} {r : List UInt8} (h : secL s = some (x, v, r)) : r.length + v + 1 ≤ s.length ∧ x.t.length ≤ s.length := by
  unfold secL at h
  split at h
  · cases h
  · rename_i h0
    split at h
    · cases h
    · rename_i k n w hh
      split at h
      · cases h
      · rename_i q hq
        simp only [Option.some.injEq, Prod.mk.injEq] at h
        obtain ⟨rfl, rfl, rfl⟩ := h
        obtain ⟨h1, h2⟩ := linesLen_le hq
        rcases lf_cases s with h3 | ⟨i, h3, hi⟩
        · omega
        · rw [h3] at h1 ⊢
          simp only [Int.toNat_natCast, List.length_drop, List.length_take] at h1 ⊢
          omega

theorem cut_lf (s : List UInt8) : Lib.cut s [10] = if lf s < 0 then (s, [], false) else (s.take (lf s).toNat, s.drop ((lf s).toNat + 1), true) := by
  unfold Lib.cut lf
  rw [Lib.index_one]
  by_cases h : 0 ≤ Lib.indexByte s 10
  · rw [if_pos h, if_neg (by omega)]; rfl
  · rw [if_neg h, if_pos (by omega)]

end Go.Am
