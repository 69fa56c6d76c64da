/-
align.Pairs. Conditions: the lists are short.
-/
import Derived.Test.YtjpppajbhpbkiaaDoorAmJ
set_option linter.unusedSimpArgs false
set_option linter.unusedVariables false
namespace Go.Am

/-- An alignment, from places i and k on. -/
def pairsS : List Str → List Str → Nat → Nat → List Mt
  | [], [], _, _ => []
  | [], _ :: m, i, k => ⟨-1, (k : Int)⟩ :: pairsS [] m i (k + 1)
  | _ :: l, [], i, k => ⟨(i : Int), -1⟩ :: pairsS l [] (i + 1) k
  | a :: l, b :: m, i, k => if a = b then ⟨(i : Int), (k : Int)⟩ :: pairsS l m (i + 1) (k + 1) else
    if cost (a :: l) (b :: m) = 1 + cost l (b :: m) then ⟨(i : Int), -1⟩ :: pairsS l (b :: m) (i + 1) k else ⟨-1, (k : Int)⟩ :: pairsS (a :: l) m i (k + 1)
termination_by a b => a.length + b.length

def pairsAt (A B : List Str) (i k : Nat) : List Mt := pairsS (A.drop i) (B.drop k) i k

theorem pairs_end (A B : List Str) : pairsAt A B A.length B.length = [] := by
  unfold pairsAt
  rw [List.drop_length, List.drop_length, pairsS]
theorem pairs_match {A B : List Str} {i k : Nat} {x : Str} (ha : A[i]? = some x) (hb : B[k]? = some x) : pairsAt A B i k = ⟨(i : Int), (k : Int)⟩ :: pairsAt A B (i + 1) (k + 1) := by
  unfold pairsAt
  rw [drop_cons' ha, drop_cons' hb, pairsS, if_pos rfl]
theorem pairs_left_end {A B : List Str} {i : Nat} (hi : i < A.length) : pairsAt A B i B.length = ⟨(i : Int), -1⟩ :: pairsAt A B (i + 1) B.length := by
  unfold pairsAt
  obtain ⟨x, hx⟩ : ∃ x, A[i]? = some x := ⟨_, List.getElem?_eq_getElem hi⟩
  rw [drop_cons' hx, List.drop_length, pairsS]
theorem pairs_right_end {A B : List Str} {k : Nat} (hk : k < B.length) : pairsAt A B A.length k = ⟨-1, (k : Int)⟩ :: pairsAt A B A.length (k + 1) := by
  unfold pairsAt
  obtain ⟨x, hx⟩ : ∃ x, B[k]? = some x := ⟨_, List.getElem?_eq_getElem hk⟩
  rw [drop_cons' hx, List.drop_length, pairsS]
theorem pairs_left {A B : List Str} {i k : Nat} {x y : Str} (ha : A[i]? = some x) (hb : B[k]? = some y) (h : x ≠ y) (hc : cost (A.drop i) (B.drop k) = 1 + cost (A.drop (i + 1)) (B.drop k)) : pairsAt A B i k = ⟨(i : Int), -1⟩ :: pairsAt A B (i + 1) k := by
  unfold pairsAt
  rw [drop_cons' ha, drop_cons' hb] at hc
  rw [drop_cons' ha, drop_cons' hb, pairsS, if_neg h, if_pos hc]
theorem pairs_right {A B : List Str} {i k : Nat} {x y : Str} (ha : A[i]? = some x) (hb : B[k]? = some y) (h : x ≠ y) (hc : cost (A.drop i) (B.drop k) ≠ 1 + cost (A.drop (i + 1)) (B.drop k)) : pairsAt A B i k = ⟨-1, (k : Int)⟩ :: pairsAt A B i (k + 1) := by
  unfold pairsAt
  rw [drop_cons' ha, drop_cons' hb] at hc
  rw [drop_cons' ha, drop_cons' hb, pairsS, if_neg h, if_neg hc]

theorem Tb.at {H0 H : AH} {o : Nat} {A B : List Str} (h : Tb H0 H o A B 0) {i k : Nat} (hi : i ≤ A.length) (hk : k ≤ B.length) :
    ∃ bo q bq, H.get o = some bo ∧ bo.cells[i]? = some (.sl q 0 1 (B.length + 1) (some (B.length + 1))) ∧ q < H.next ∧ H.get q = some bq ∧ bq.cells[k]? = some (.int .i64 ((cost (A.drop i) (B.drop k) : Nat) : Int)) := by
  obtain ⟨c, wh, s, g, l, f⟩ := h.out
  obtain ⟨q, q1, q2, q3, q4, c2, w2, s2, g2, l2, f2⟩ := f i (Nat.zero_le _) hi
  exact ⟨_, q, _, g, q1, q4, g2, f2 k (Nat.zero_le _) hk⟩

/-- What Pairs holds between its rounds. -/
structure PW (H1 H : AH) (v : AV) (acc : List Mt) : Prop where
  names : Names H
  old : ∀ j, j < H1.next → H.get j = H1.get j
  out : OutV H1.next H 56 2 v acc.length (rowsOf Mt.cells acc)
  fl : H.floor ≤ H.next
  grow : Grow H1 H

theorem PW.add {H1 H : AH} {v : AV} {acc : List Mt} (h : PW H1 H v acc) (x : Mt) (hl : acc.length ≤ 1000000) :
    ∃ v' H', aapp (H.push 56 true [.int .i64 x.l, .int .i64 x.r]) 56 2 16 v [.int .i64 x.l, .int .i64 x.r] = some (.ok v', H') ∧ PW H1 H' v' (acc ++ [x]) := by
  obtain ⟨v', H', e1, e2, e3, e4, e5⟩ := h.out.snoc 16 (new := [.int .i64 x.l, .int .i64 x.r]) rfl (by omega)
  refine ⟨v', H', e1, aapp_names (h.names.push _ _ _) e1, fun j hj => (e5 j hj).trans (h.old j hj), ?_, by rw [e3]; exact Nat.le_trans h.fl e4, ⟨e3.trans h.grow.1, Nat.le_trans h.grow.2.1 e4, fun j hj => (e5 j hj).trans (h.old j hj)⟩⟩
  have : rowsOf Mt.cells (acc ++ [x]) = rowsOf Mt.cells acc ++ [.int .i64 x.l, .int .i64 x.r] := by simp [rowsOf, Mt.cells]
  rw [this, List.length_append]
  exact e2

end Go.Am
