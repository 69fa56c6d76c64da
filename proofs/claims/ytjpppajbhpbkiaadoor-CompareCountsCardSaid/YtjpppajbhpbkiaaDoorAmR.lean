/-
The differences of two lists of events, in plain words. Conditions: none.
-/
import Derived.Test.YtjpppajbhpbkiaaDoorAmQ
set_option linter.unusedSimpArgs false
set_option linter.unusedVariables false
namespace Go.Am

def diffL (a b : List Ev) (sh tol : Int) (ms : List Mt) : List Ch := ms.flatMap fun m => if (changeV a b m sh tol).k = 0 then [] else [changeV a b m sh tol]
def matchesL (a b : List Ev) : List Mt := pairsL (keysL a) (keysL b)
def diffR (a b : List Ev) (tol : Int) : List Ch × Int :=
  if tol < 0 ∨ okL a = false ∨ okL b = false then ([], 1) else (diffL a b (shiftV a b (matchesL a b)) tol (matchesL a b), 0)

theorem diff_step {a b : List Ev} {sh tol : Int} {ms : List Mt} {i : Nat} {m : Mt} (h : ms[i]? = some m) : diffL a b sh tol (ms.take (i + 1)) = diffL a b sh tol (ms.take i) ++ (if (changeV a b m sh tol).k = 0 then [] else [changeV a b m sh tol]) := by
  unfold diffL
  rw [List.take_add_one, h, Option.toList_some, List.flatMap_append]
  simp

theorem diff_len (a b : List Ev) (sh tol : Int) (ms : List Mt) : (diffL a b sh tol ms).length ≤ ms.length := by
  unfold diffL
  induction ms with
  | nil => simp
  | cons m ms ih =>
    rw [List.flatMap_cons, List.length_append, List.length_cons]
    split <;> simp only [List.length_nil, List.length_singleton] <;> omega

theorem pairs_fits : ∀ (n : Nat) (a b : List Str) (i k : Nat), a.length + b.length ≤ n → ∀ m ∈ pairsS a b i k, (0 ≤ m.l → i ≤ m.l.toNat ∧ m.l.toNat < i + a.length) ∧ (0 ≤ m.r → k ≤ m.r.toNat ∧ m.r.toNat < k + b.length)
  | n, [], [], i, k, _ => by rw [pairsS]; intro m hm; cases hm
  | 0, a :: l, b, i, k, h => by simp at h
  | 0, [], b :: m, i, k, h => by simp at h
  | n + 1, [], b :: bs, i, k, h => by
    simp only [List.length_cons] at h
    have ih := pairs_fits n [] bs i (k + 1) (by omega)
    rw [pairsS]
    intro m hm
    rcases List.mem_cons.1 hm with rfl | hm
    · simp only [List.length_cons]; omega
    · have := ih m hm
      simp only [List.length_cons] at this ⊢; omega
  | n + 1, a :: l, [], i, k, h => by
    simp only [List.length_cons] at h
    have ih := pairs_fits n l [] (i + 1) k (by omega)
    rw [pairsS]
    intro m hm
    rcases List.mem_cons.1 hm with rfl | hm
    · simp only [List.length_cons]; omega
    · have := ih m hm
      simp only [List.length_cons] at this ⊢; omega
  | n + 1, a :: l, b :: bs, i, k, h => by
    simp only [List.length_cons] at h
    have h1 := pairs_fits n l bs (i + 1) (k + 1) (by omega)
    have h2 := pairs_fits n l (b :: bs) (i + 1) k (by simp only [List.length_cons]; omega)
    have h3 := pairs_fits n (a :: l) bs i (k + 1) (by simp only [List.length_cons]; omega)
    rw [pairsS]
    intro m hm
    split at hm
    · rcases List.mem_cons.1 hm with rfl | hm
      · simp only [List.length_cons]; omega
      · have := h1 m hm
        simp only [List.length_cons] at this ⊢; omega
    · split at hm
      · rcases List.mem_cons.1 hm with rfl | hm
        · simp only [List.length_cons]; omega
        · have := h2 m hm
          simp only [List.length_cons] at this ⊢; omega
      · rcases List.mem_cons.1 hm with rfl | hm
        · simp only [List.length_cons]; omega
        · have := h3 m hm
          simp only [List.length_cons] at this ⊢; omega

theorem keys_len {l : List Ev} (h : okL l = true) : (keysL l).length = l.length := by unfold keysL; rw [if_pos h, List.length_map]
theorem keys_len_le (l : List Ev) : (keysL l).length ≤ l.length := by unfold keysL; split <;> simp

theorem matches_fits (a b : List Ev) : ∀ m ∈ matchesL a b, m.fits a b := fun m hm => by
  have h := pairs_fits _ (keysL a) (keysL b) 0 0 (Nat.le_refl _) m hm
  have ha := keys_len_le a
  have hb := keys_len_le b
  exact ⟨fun h0 => by have := h.1 h0; omega, fun h0 => by have := h.2 h0; omega⟩

theorem matches_len (a b : List Ev) : (matchesL a b).length ≤ a.length + b.length := by
  have := pairsL_len (keysL a) (keysL b)
  have ha := keys_len_le a
  have hb := keys_len_le b
  unfold matchesL
  omega

theorem change_zero {a b : List Ev} {m : Mt} {sh tol : Int} (h : (changeV a b m sh tol).k = 0) : changeV a b m sh tol = ⟨0, 0, 0⟩ := by
  unfold changeV at h ⊢
  split
  · rename_i h1; rw [if_pos h1] at h; cases h
  · rename_i h1
    rw [if_neg h1] at h
    split
    · rename_i h2; rw [if_pos h2] at h; cases h
    · rename_i h2
      rw [if_neg h2] at h
      split
      · rename_i h3; rw [if_pos h3] at h; cases h
      · rfl

theorem aeqs_zero {c : Ch} (h : c.k = 0 → c = ⟨0, 0, 0⟩) : aeqs [(0, .none, .int), (1, .none, .int), (2, .none, .int)] c.cells [.int .i64 0, .int .i64 0, .int .i64 0] = some (c.k == 0) := by
  by_cases hk : c.k = 0
  · rw [h hk]; rfl
  · have hb : (c.k == 0) = false := beq_false_of_ne hk
    simp [aeqs, aeq, Ch.cells, hb]

/-- What Diff holds between its rounds. -/
structure DW (H1 H : AH) (v : AV) (acc : List Ch) : Prop where
  names : Names H
  out : OutV H1.next H 48 3 v acc.length (rowsOf Ch.cells acc)
  fl : H.floor ≤ H.next
  grow : Grow H1 H

theorem DW.push {H1 H : AH} {v : AV} {acc : List Ch} (h : DW H1 H v acc) (ty : TypeId) (cs : List AV) : DW H1 (H.push ty true cs) v acc :=
  ⟨h.names.push _ _ _, h.out.push _ _ _, Nat.le_succ_of_le h.fl, h.grow.trans (Grow.push _ _ _ _)⟩

theorem DW.add {H1 H : AH} {v : AV} {acc : List Ch} (h : DW H1 H v acc) (x : Ch) (hl : acc.length ≤ 1000000) :
    ∃ v' H', aapp (H.push 48 true x.cells) 48 3 24 v x.cells = some (.ok v', H') ∧ DW H1 H' v' (acc ++ [x]) := by
  obtain ⟨v', H', e1, e2, e3, e4, e5⟩ := h.out.snoc 24 (new := x.cells) rfl (by omega)
  refine ⟨v', H', e1, aapp_names (h.names.push _ _ _) e1, ?_, by rw [e3]; exact Nat.le_trans h.fl e4, ⟨e3.trans h.grow.1, Nat.le_trans h.grow.2.1 e4, fun j hj => (e5 j hj).trans (h.grow.2.2 j hj)⟩⟩
  have : rowsOf Ch.cells (acc ++ [x]) = rowsOf Ch.cells acc ++ x.cells := by simp [rowsOf]
  rw [this, List.length_append]
  exact e2

theorem DW.start {H1 : AH} (hN : Names H1) (hf : H1.floor ≤ H1.next) : DW H1 H1 .nils [] := ⟨hN, ⟨by decide, hf, Nat.le_refl _, .inl ⟨rfl, rfl, rfl⟩⟩, hf, Grow.refl _⟩
theorem DW.start' {H1 : AH} (hN : Names H1) (hf : H1.floor ≤ H1.next) : DW H1 (H1.push 48 true []) (.sl H1.next 0 3 0 (some 0)) [] :=
  ⟨hN.push _ _ _, ⟨by decide, hf, Nat.le_succ _, .inr ⟨H1.next, some 0, Nat.le_refl _, rfl, own_new H1 48 true [] (some 0) (by decide) rfl (.inl rfl) hf⟩⟩, Nat.le_succ_of_le hf, Grow.push _ _ _ _⟩

end Go.Am
