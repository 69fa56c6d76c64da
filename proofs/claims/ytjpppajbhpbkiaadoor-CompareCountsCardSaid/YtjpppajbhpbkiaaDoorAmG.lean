/-
The least number of insertions and deletions, and a table of it. Conditions: those that each theorem names.
-/
import Derived.Test.YtjpppajbhpbkiaaDoorAmF
set_option linter.unusedSimpArgs false
set_option linter.unusedVariables false
namespace Go.Am

abbrev Str := List UInt8

/-- The least number of insertions and deletions. -/
def cost : List Str → List Str → Nat
  | [], b => b.length
  | a :: l, [] => l.length + 1
  | a :: l, b :: m => if a = b then cost l m else 1 + min (cost l (b :: m)) (cost (a :: l) m)
termination_by a b => a.length + b.length

theorem cost_nil_left (b : List Str) : cost [] b = b.length := by rw [cost]
theorem cost_nil_right (a : List Str) : cost a [] = a.length := by cases a <;> rw [cost] <;> rfl
theorem cost_eq {x : Str} (l m : List Str) : cost (x :: l) (x :: m) = cost l m := by rw [cost, if_pos rfl]
theorem cost_ne {a b : Str} (h : a ≠ b) (l m : List Str) : cost (a :: l) (b :: m) = 1 + min (cost l (b :: m)) (cost (a :: l) m) := by rw [cost, if_neg h]

theorem cost_le : ∀ (n : Nat) (a b : List Str), a.length + b.length ≤ n → cost a b ≤ a.length + b.length
  | n, [], b, _ => by rw [cost_nil_left]; simp
  | n, a :: l, [], _ => by rw [cost_nil_right]; simp
  | 0, a :: l, b :: m, h => by simp at h
  | n + 1, a :: l, b :: m, h => by
    simp only [List.length_cons] at h
    by_cases e : a = b
    · subst e
      rw [cost_eq]
      have := cost_le n l m (by omega)
      simp only [List.length_cons]; omega
    · rw [cost_ne e]
      have := cost_le n l (b :: m) (by simp only [List.length_cons]; omega)
      simp only [List.length_cons] at this ⊢
      omega

def costC (A B : List Str) (i k : Nat) : AV := .int .i64 ((cost (A.drop i) (B.drop k) : Nat) : Int)

theorem cost_end_left (A B : List Str) (k : Nat) : cost (A.drop A.length) (B.drop k) = B.length - k := by rw [List.drop_length, cost_nil_left, List.length_drop]
theorem cost_end_right (A B : List Str) (i : Nat) : cost (A.drop i) (B.drop B.length) = A.length - i := by rw [List.drop_length, cost_nil_right, List.length_drop]

theorem drop_cons' {α : Type} {l : List α} {i : Nat} {x : α} (h : l[i]? = some x) : l.drop i = x :: l.drop (i + 1) := by
  have hil : i < l.length := by
    by_cases hlt : i < l.length
    · exact hlt
    · rw [List.getElem?_eq_none (by omega)] at h; cases h
  rw [List.drop_eq_getElem_cons hil]
  rw [List.getElem?_eq_getElem hil, Option.some.injEq] at h
  rw [h]

theorem cost_step_eq {A B : List Str} {i k : Nat} {x : Str} (ha : A[i]? = some x) (hb : B[k]? = some x) : cost (A.drop i) (B.drop k) = cost (A.drop (i + 1)) (B.drop (k + 1)) := by
  rw [drop_cons' ha, drop_cons' hb, cost_eq]
theorem cost_step_ne {A B : List Str} {i k : Nat} {x y : Str} (ha : A[i]? = some x) (hb : B[k]? = some y) (h : x ≠ y) : cost (A.drop i) (B.drop k) = 1 + min (cost (A.drop (i + 1)) (B.drop k)) (cost (A.drop i) (B.drop (k + 1))) := by
  rw [drop_cons' ha, drop_cons' hb, cost_ne h]
theorem cost_bound (A B : List Str) (i k : Nat) : cost (A.drop i) (B.drop k) ≤ A.length + B.length := by
  have := cost_le _ (A.drop i) (B.drop k) (Nat.le_refl _)
  rw [List.length_drop, List.length_drop] at this
  omega

/-- Row r holds the costs of A from i on, and of B from each place from k on. -/
def RowAt (H : AH) (r : Nat) (A B : List Str) (i k : Nat) : Prop :=
  ∃ cells wh s0, H.get r = some ⟨cells, false, 3, wh, s0⟩ ∧ cells.length = B.length + 1 ∧ ∀ j, k ≤ j → j ≤ B.length → cells[j]? = some (costC A B i j)

def rowV (B : List Str) (q : Nat) : AV := .sl q 0 1 (B.length + 1) (some (B.length + 1))

/-- The table while row i is filled, from its end down to n. -/
structure In (w : Bool) (H0 H : AH) (o r : Nat) (A B : List Str) (i n : Nat) : Prop where
  names : Names H
  floor : H.floor = H0.floor
  low : H0.floor ≤ H0.next
  nextO : o < H.next
  nextR : r < H.next
  old : ∀ j, j < H0.next → H.get j = H0.get j
  lowO : H0.next ≤ o
  lowR : H0.next ≤ r
  ne : o ≠ r
  row : RowAt H r A B i n
  out : ∃ cells wh s0, H.get o = some ⟨cells, false, 63, wh, s0⟩ ∧ cells.length = A.length + 1 ∧ (w = true → cells[i]? = some (rowV B r)) ∧
    ∀ i', i + 1 ≤ i' → i' ≤ A.length → ∃ q, cells[i']? = some (rowV B q) ∧ H0.next ≤ q ∧ q ≠ o ∧ q ≠ r ∧ q < H.next ∧ RowAt H q A B i' 0

theorem In.set {w : Bool} {H0 H : AH} {o r : Nat} {A B : List Str} {i n : Nat} (h : In w H0 H o r A B i (n + 1)) (hn : n ≤ B.length) :
    ∃ H', H.store r n [costC A B i n] = some H' ∧ In w H0 H' o r A B i n := by
  obtain ⟨cells, wh, s0, hg, hl, hc⟩ := h.row
  have hlow := h.low
  have hfl := h.floor
  have hlr := h.lowR
  have agree : ∀ j, j ≠ r → (H.put r ⟨cells.set n (costC A B i n), false, 3, wh, s0⟩).get j = H.get j := fun j hj => by rw [get_put, if_neg hj]
  refine ⟨H.put r ⟨cells.set n (costC A B i n), false, 3, wh, s0⟩, ?_, ⟨h.names.put _ _, hfl, hlow, h.nextO, h.nextR, fun j hj => (agree j (by omega)).trans (h.old j hj), h.lowO, hlr, h.ne, ?_, ?_⟩⟩
  · unfold AH.store
    rw [if_neg (by omega), hg]
    have : n + 1 ≤ cells.length := by omega
    simp [this, putAt, solid, costC]
  · refine ⟨cells.set n (costC A B i n), wh, s0, by rw [get_put, if_pos rfl, hg]; rfl, by rw [List.length_set]; exact hl, fun j hj hj' => ?_⟩
    by_cases e : n = j
    · subst e
      rw [List.getElem?_set_self (by omega)]
    · rw [List.getElem?_set_ne e]
      exact hc j (by omega) hj'
  · obtain ⟨oc, owh, os0, og, ol, oi, orow⟩ := h.out
    refine ⟨oc, owh, os0, (agree o h.ne).trans og, ol, oi, fun i' h1 h2 => ?_⟩
    obtain ⟨q, q1, q2, q3, q4, q5, c2, w2, s2, g2, l2, r2⟩ := orow i' h1 h2
    exact ⟨q, q1, q2, q3, q4, q5, c2, w2, s2, (agree q q4).trans g2, l2, r2⟩

end Go.Am
