/-
The numbers of missing, extra and moved events, and the distance of the keys, in plain words. Conditions: none.
-/
import Derived.Test.YtjpppajbhpbkiaaDoorAmU
set_option linter.unusedSimpArgs false
set_option linter.unusedVariables false
namespace Go.Am

/-! ### The distance from either end -/

theorem cost_sub : ∀ (n : Nat) (a b : List Str), a.length + b.length ≤ n → ∀ c : List Str, c.Sublist a → c.Sublist b → cost a b + 2 * c.length ≤ a.length + b.length
  | n, [], b, _, c, h1, h2 => by
    have : c = [] := List.sublist_nil.1 h1
    subst this
    rw [cost_nil_left]; simp
  | n, a :: l, [], _, c, h1, h2 => by
    have : c = [] := List.sublist_nil.1 h2
    subst this
    rw [cost_nil_right]; simp
  | 0, a :: l, b :: m, h, c, _, _ => by simp at h
  | n + 1, a :: l, b :: m, h, c, h1, h2 => by
    simp only [List.length_cons] at h
    by_cases e : a = b
    · subst e
      rw [cost_eq]
      cases c with
      | nil =>
        have := cost_le _ l m (Nat.le_refl _)
        simp only [List.length_cons, List.length_nil]; omega
      | cons x c =>
        have t1 : c.Sublist l := by
          cases h1 with
          | cons _ h => exact List.Sublist.trans (List.sublist_cons_self x c) h
          | cons_cons _ h => exact h
        have t2 : c.Sublist m := by
          cases h2 with
          | cons _ h => exact List.Sublist.trans (List.sublist_cons_self x c) h
          | cons_cons _ h => exact h
        have := cost_sub n l m (by omega) c t1 t2
        simp only [List.length_cons]; omega
    · rw [cost_ne e]
      have key : c.Sublist l ∨ c.Sublist m := by
        cases h1 with
        | cons _ h => exact .inl h
        | cons_cons _ h =>
          cases h2 with
          | cons _ h' => exact .inr h'
          | cons_cons _ h' => exact absurd rfl e
      rcases key with h3 | h3
      · have := cost_sub n l (b :: m) (by simp only [List.length_cons]; omega) c h3 h2
        simp only [List.length_cons] at this ⊢; omega
      · have := cost_sub n (a :: l) m (by simp only [List.length_cons]; omega) c h1 h3
        simp only [List.length_cons] at this ⊢; omega

theorem cost_wit : ∀ (n : Nat) (a b : List Str), a.length + b.length ≤ n → ∃ c : List Str, c.Sublist a ∧ c.Sublist b ∧ cost a b + 2 * c.length = a.length + b.length
  | n, [], b, _ => ⟨[], List.nil_sublist _, List.nil_sublist _, by rw [cost_nil_left]; simp⟩
  | n, a :: l, [], _ => ⟨[], List.nil_sublist _, List.nil_sublist _, by rw [cost_nil_right]; simp⟩
  | 0, a :: l, b :: m, h => by simp at h
  | n + 1, a :: l, b :: m, h => by
    simp only [List.length_cons] at h
    by_cases e : a = b
    · subst e
      obtain ⟨c, h1, h2, h3⟩ := cost_wit n l m (by omega)
      exact ⟨a :: c, h1.cons_cons a, h2.cons_cons a, by rw [cost_eq]; simp only [List.length_cons]; omega⟩
    · rw [cost_ne e]
      by_cases hm : cost l (b :: m) ≤ cost (a :: l) m
      · obtain ⟨c, h1, h2, h3⟩ := cost_wit n l (b :: m) (by simp only [List.length_cons]; omega)
        refine ⟨c, h1.cons a, h2, ?_⟩
        simp only [List.length_cons] at h3 ⊢; omega
      · obtain ⟨c, h1, h2, h3⟩ := cost_wit n (a :: l) m (by simp only [List.length_cons]; omega)
        refine ⟨c, h1, h2.cons b, ?_⟩
        simp only [List.length_cons] at h3 ⊢; omega

theorem cost_reverse_le (a b : List Str) : cost a.reverse b.reverse ≤ cost a b := by
  obtain ⟨c, h1, h2, h3⟩ := cost_wit _ a b (Nat.le_refl _)
  have := cost_sub _ a.reverse b.reverse (Nat.le_refl _) c.reverse h1.reverse h2.reverse
  simp only [List.length_reverse] at this
  omega
theorem cost_reverse (a b : List Str) : cost a.reverse b.reverse = cost a b := by
  have h1 := cost_reverse_le a b
  have h2 := cost_reverse_le a.reverse b.reverse
  rw [List.reverse_reverse, List.reverse_reverse] at h2
  omega

/-- The distance of the first i of A and the first k of B. -/
def dist (A B : List Str) (i k : Nat) : Nat := cost (A.take i).reverse (B.take k).reverse

theorem take_rev {A : List Str} {i : Nat} {x : Str} (h : A[i]? = some x) : (A.take (i + 1)).reverse = x :: (A.take i).reverse := by
  rw [List.take_add_one, h, Option.toList_some, List.reverse_append]
  rfl
theorem dist_zero_left (A B : List Str) {k : Nat} (h : k ≤ B.length) : dist A B 0 k = k := by
  unfold dist
  rw [List.take_zero, List.reverse_nil, cost_nil_left, List.length_reverse, List.length_take]; omega
theorem dist_zero_right (A B : List Str) {i : Nat} (h : i ≤ A.length) : dist A B i 0 = i := by
  unfold dist
  rw [List.take_zero, List.reverse_nil, cost_nil_right, List.length_reverse, List.length_take]; omega
theorem dist_eq {A B : List Str} {i k : Nat} {x : Str} (ha : A[i]? = some x) (hb : B[k]? = some x) : dist A B (i + 1) (k + 1) = dist A B i k := by
  unfold dist
  rw [take_rev ha, take_rev hb, cost_eq]
theorem dist_ne {A B : List Str} {i k : Nat} {x y : Str} (ha : A[i]? = some x) (hb : B[k]? = some y) (h : x ≠ y) : dist A B (i + 1) (k + 1) = 1 + min (dist A B i (k + 1)) (dist A B (i + 1) k) := by
  unfold dist
  rw [take_rev ha, take_rev hb, cost_ne h]
theorem dist_all (A B : List Str) : dist A B A.length B.length = cost A B := by
  unfold dist
  rw [List.take_length, List.take_length, cost_reverse]
theorem dist_le (A B : List Str) (i k : Nat) : dist A B i k ≤ A.length + B.length := by
  unfold dist
  have := cost_le _ (A.take i).reverse (B.take k).reverse (Nat.le_refl _)
  simp only [List.length_reverse, List.length_take] at this
  omega

/-! ### The changes, counted -/

def missB (m : Mt) : Bool := decide (m.r < 0)
def extB (m : Mt) : Bool := !decide (m.r < 0) && decide (m.l < 0)
def movB (a b : List Ev) (sh tol : Int) (m : Mt) : Bool := !decide (m.r < 0) && (!decide (m.l < 0) && decide (tol < dV a b m sh ∨ tol < IntKind.i64.wrap (0 - dV a b m sh)))
def cnt (n : Int) (l : List Ch) : Nat := l.countP fun c => c.k == n

theorem diff_cons (a b : List Ev) (sh tol : Int) (m : Mt) (ms : List Mt) : diffL a b sh tol (m :: ms) = (if (changeV a b m sh tol).k = 0 then [] else [changeV a b m sh tol]) ++ diffL a b sh tol ms := by
  unfold diffL
  rw [List.flatMap_cons]

theorem diff_counts (a b : List Ev) (sh tol : Int) (ms : List Mt) :
    cnt 1 (diffL a b sh tol ms) = ms.countP missB ∧ cnt 2 (diffL a b sh tol ms) = ms.countP extB ∧ cnt 3 (diffL a b sh tol ms) = ms.countP (movB a b sh tol) := by
  induction ms with
  | nil => exact ⟨rfl, rfl, rfl⟩
  | cons m ms ih =>
    obtain ⟨h1, h2, h3⟩ := ih
    rw [diff_cons]
    unfold cnt at h1 h2 h3 ⊢
    rw [List.countP_append, List.countP_append, List.countP_append, h1, h2, h3, List.countP_cons, List.countP_cons, List.countP_cons]
    by_cases hr : m.r < 0
    · have hc : changeV a b m sh tol = ⟨1, m.l, -1⟩ := by unfold changeV; rw [if_pos hr]
      rw [hc]
      simp [missB, extB, movB, hr, Nat.add_comm]
    · by_cases hl : m.l < 0
      · have hc : changeV a b m sh tol = ⟨2, -1, m.r⟩ := by unfold changeV; rw [if_neg hr, if_pos hl]
        rw [hc]
        simp [missB, extB, movB, hr, hl, Nat.add_comm]
      · by_cases ht : tol < dV a b m sh ∨ tol < IntKind.i64.wrap (0 - dV a b m sh)
        · have hc : changeV a b m sh tol = ⟨3, m.l, m.r⟩ := by unfold changeV; rw [if_neg hr, if_neg hl, if_pos ht]
          rw [hc]
          have hm : movB a b sh tol m = true := by unfold movB; rw [decide_eq_false hr, decide_eq_false hl, decide_eq_true ht]; rfl
          simp [missB, extB, hm, hr, hl, Nat.add_comm]
        · have hc : changeV a b m sh tol = ⟨0, 0, 0⟩ := by unfold changeV; rw [if_neg hr, if_neg hl, if_neg ht]
          rw [hc]
          have hm : movB a b sh tol m = false := by unfold movB; rw [decide_eq_false ht]; simp
          simp [missB, extB, hm, hr, hl]

theorem mov_le (a b : List Ev) (sh : Int) {tol more : Int} (h : tol ≤ more) (ms : List Mt) : ms.countP (movB a b sh more) ≤ ms.countP (movB a b sh tol) := by
  refine List.countP_mono_left fun m _ hm => ?_
  unfold movB at hm ⊢
  simp only [Bool.and_eq_true, decide_eq_true_eq] at hm ⊢
  exact ⟨hm.1, hm.2.1, by omega⟩

theorem pairs_counts : ∀ (n : Nat) (a b : List Str) (i k : Nat), a.length + b.length ≤ n →
    (pairsS a b i k).countP missB + (pairsS a b i k).countP extB = cost a b ∧ a.length + (pairsS a b i k).countP extB = b.length + (pairsS a b i k).countP missB
  | n, [], [], i, k, _ => by rw [pairsS, cost_nil_left]; exact ⟨rfl, rfl⟩
  | 0, a :: l, b, i, k, h => by simp at h
  | 0, [], b :: m, i, k, h => by simp at h
  | n + 1, [], b :: m, i, k, h => by
    simp only [List.length_cons] at h
    have ih := pairs_counts n [] m i (k + 1) (by omega)
    rw [cost_nil_left] at ih ⊢
    rw [pairsS, List.countP_cons, List.countP_cons]
    have e1 : missB ⟨-1, (k : Int)⟩ = false := decide_eq_false (by simp only; omega)
    have e2 : extB ⟨-1, (k : Int)⟩ = true := by unfold extB; rw [decide_eq_false (by simp only; omega)]; rfl
    rw [e1, e2]
    simp only [List.length_cons, List.length_nil, Bool.false_eq_true, if_false, if_true] at ih ⊢
    omega
  | n + 1, a :: l, [], i, k, h => by
    simp only [List.length_cons] at h
    have ih := pairs_counts n l [] (i + 1) k (by omega)
    rw [cost_nil_right] at ih ⊢
    rw [pairsS, List.countP_cons, List.countP_cons]
    have e1 : missB ⟨(i : Int), -1⟩ = true := rfl
    have e2 : extB ⟨(i : Int), -1⟩ = false := rfl
    rw [e1, e2]
    simp only [List.length_cons, List.length_nil, Bool.false_eq_true, if_false, if_true] at ih ⊢
    omega
  | n + 1, a :: l, b :: m, i, k, h => by
    simp only [List.length_cons] at h
    have h1 := pairs_counts n l m (i + 1) (k + 1) (by omega)
    have h2 := pairs_counts n l (b :: m) (i + 1) k (by simp only [List.length_cons]; omega)
    have h3 := pairs_counts n (a :: l) m i (k + 1) (by simp only [List.length_cons]; omega)
    rw [pairsS]
    by_cases e : a = b
    · subst e
      rw [if_pos rfl, cost_eq, List.countP_cons, List.countP_cons]
      have e1 : missB ⟨(i : Int), (k : Int)⟩ = false := decide_eq_false (by simp only; omega)
      have e2 : extB ⟨(i : Int), (k : Int)⟩ = false := by unfold extB; rw [decide_eq_false (show ¬ (i : Int) < 0 by omega), Bool.and_false]
      rw [e1, e2]
      simp only [List.length_cons, Bool.false_eq_true, if_false] at h1 ⊢
      omega
    · rw [if_neg e]
      have hc := cost_ne e l m
      by_cases hcc : cost (a :: l) (b :: m) = 1 + cost l (b :: m)
      · rw [if_pos hcc, List.countP_cons, List.countP_cons, hcc]
        have e1 : missB ⟨(i : Int), -1⟩ = true := rfl
        have e2 : extB ⟨(i : Int), -1⟩ = false := rfl
        rw [e1, e2]
        simp only [List.length_cons, Bool.false_eq_true, if_false, if_true] at h2 ⊢
        omega
      · rw [if_neg hcc, List.countP_cons, List.countP_cons]
        have e1 : missB ⟨-1, (k : Int)⟩ = false := decide_eq_false (by simp only; omega)
        have e2 : extB ⟨-1, (k : Int)⟩ = true := by unfold extB; rw [decide_eq_false (by simp only; omega)]; rfl
        rw [e1, e2]
        simp only [List.length_cons, Bool.false_eq_true, if_false, if_true] at h3 ⊢
        omega

/-- A match names an element of each list, or of one; those that it names of both are equal. -/
theorem pairs_names : ∀ (n : Nat) (a b : List Str) (i k : Nat), a.length + b.length ≤ n → ∀ m ∈ pairsS a b i k,
    (m.r < 0 → 0 ≤ m.l) ∧ (m.l < 0 → m.l = -1) ∧ (0 ≤ m.l → 0 ≤ m.r → ∃ x, a[m.l.toNat - i]? = some x ∧ b[m.r.toNat - k]? = some x ∧ i ≤ m.l.toNat ∧ k ≤ m.r.toNat)
  | n, [], [], i, k, _ => by rw [pairsS]; intro m hm; cases hm
  | 0, a :: l, b, i, k, h => by simp at h
  | 0, [], b :: m, i, k, h => by simp at h
  | n + 1, [], b :: bs, i, k, h => by
    simp only [List.length_cons] at h
    have ih := pairs_names n [] bs i (k + 1) (by omega)
    rw [pairsS]
    intro m hm
    rcases List.mem_cons.1 hm with rfl | hm
    · refine ⟨fun h => ?_, fun _ => rfl, fun h => ?_⟩ <;> simp only at h <;> omega
    · obtain ⟨h1, h2, h3⟩ := ih m hm
      refine ⟨h1, h2, fun h4 h5 => ?_⟩
      obtain ⟨x, hx, _⟩ := h3 h4 h5
      simp at hx
  | n + 1, a :: l, [], i, k, h => by
    simp only [List.length_cons] at h
    have ih := pairs_names n l [] (i + 1) k (by omega)
    rw [pairsS]
    intro m hm
    rcases List.mem_cons.1 hm with rfl | hm
    · refine ⟨fun _ => ?_, fun h => ?_, fun _ h => ?_⟩ <;> simp only at * <;> omega
    · obtain ⟨h1, h2, h3⟩ := ih m hm
      refine ⟨h1, h2, fun h4 h5 => ?_⟩
      obtain ⟨x, _, hx, _⟩ := h3 h4 h5
      simp at hx
  | n + 1, a :: l, b :: bs, i, k, h => by
    simp only [List.length_cons] at h
    have h1 := pairs_names n l bs (i + 1) (k + 1) (by omega)
    have h2 := pairs_names n l (b :: bs) (i + 1) k (by simp only [List.length_cons]; omega)
    have h3 := pairs_names n (a :: l) bs i (k + 1) (by simp only [List.length_cons]; omega)
    rw [pairsS]
    intro m hm
    split at hm
    · rename_i hab
      subst hab
      rcases List.mem_cons.1 hm with rfl | hm
      · refine ⟨fun h => ?_, fun h => ?_, fun _ _ => ⟨a, ?_, ?_, ?_, ?_⟩⟩
        · simp only at h; omega
        · simp only at h; omega
        · simp
        · simp
        · simp
        · simp
      · obtain ⟨g1, g2, g3⟩ := h1 m hm
        refine ⟨g1, g2, fun h4 h5 => ?_⟩
        obtain ⟨x, x1, x2, x3, x4⟩ := g3 h4 h5
        refine ⟨x, ?_, ?_, by omega, by omega⟩
        · rw [show m.l.toNat - i = (m.l.toNat - (i + 1)) + 1 by omega, List.getElem?_cons_succ]; exact x1
        · rw [show m.r.toNat - k = (m.r.toNat - (k + 1)) + 1 by omega, List.getElem?_cons_succ]; exact x2
    · split at hm
      · rcases List.mem_cons.1 hm with rfl | hm
        · refine ⟨fun _ => ?_, fun h => ?_, fun _ h => ?_⟩ <;> simp only at * <;> omega
        · obtain ⟨g1, g2, g3⟩ := h2 m hm
          refine ⟨g1, g2, fun h4 h5 => ?_⟩
          obtain ⟨x, x1, x2, x3, x4⟩ := g3 h4 h5
          refine ⟨x, ?_, x2, by omega, by omega⟩
          rw [show m.l.toNat - i = (m.l.toNat - (i + 1)) + 1 by omega, List.getElem?_cons_succ]; exact x1
      · rcases List.mem_cons.1 hm with rfl | hm
        · refine ⟨fun h => ?_, fun _ => rfl, fun h => ?_⟩ <;> simp only at h <;> omega
        · obtain ⟨g1, g2, g3⟩ := h3 m hm
          refine ⟨g1, g2, fun h4 h5 => ?_⟩
          obtain ⟨x, x1, x2, x3, x4⟩ := g3 h4 h5
          refine ⟨x, x1, ?_, by omega, by omega⟩
          rw [show m.r.toNat - k = (m.r.toNat - (k + 1)) + 1 by omega, List.getElem?_cons_succ]; exact x2

/-- What a change of two lists of events is. -/
def okCh (a b : List Ev) (c : Ch) : Prop :=
  (c.k = 1 ∧ 0 ≤ c.l ∧ c.l.toNat < a.length ∧ c.r = -1) ∨ (c.k = 2 ∧ c.l = -1 ∧ 0 ≤ c.r ∧ c.r.toNat < b.length) ∨
    (c.k = 3 ∧ 0 ≤ c.l ∧ 0 ≤ c.r ∧ ∃ x y, a[c.l.toNat]? = some x ∧ b[c.r.toNat]? = some y ∧ keyL x = keyL y)

theorem keys_at {l : List Ev} (h : okL l = true) {j : Nat} {s : Str} (hs : (keysL l)[j]? = some s) : ∃ x, l[j]? = some x ∧ keyL x = s := by
  unfold keysL at hs
  rw [if_pos h, List.getElem?_map] at hs
  obtain ⟨x, hx, rfl⟩ := Option.map_eq_some_iff.1 hs
  exact ⟨x, hx, rfl⟩

theorem diff_ok {a b : List Ev} (ha : okL a = true) (hb : okL b = true) (sh tol : Int) : ∀ c ∈ diffL a b sh tol (matchesL a b), okCh a b c := fun c hc => by
  unfold diffL at hc
  obtain ⟨m, hm, hcm⟩ := List.mem_flatMap.1 hc
  have hf := matches_fits a b m hm
  obtain ⟨n1, n2, n3⟩ := pairs_names _ (keysL a) (keysL b) 0 0 (Nat.le_refl _) m hm
  split at hcm
  · cases hcm
  · rename_i hk0
    rw [List.mem_singleton] at hcm
    subst hcm
    by_cases hr : m.r < 0
    · have hcv : changeV a b m sh tol = ⟨1, m.l, -1⟩ := by unfold changeV; rw [if_pos hr]
      rw [hcv]
      exact .inl ⟨rfl, n1 hr, hf.1 (n1 hr), rfl⟩
    · by_cases hl : m.l < 0
      · have hcv : changeV a b m sh tol = ⟨2, -1, m.r⟩ := by unfold changeV; rw [if_neg hr, if_pos hl]
        rw [hcv]
        exact .inr (.inl ⟨rfl, rfl, by simp only; omega, hf.2 (by omega)⟩)
      · by_cases ht : tol < dV a b m sh ∨ tol < IntKind.i64.wrap (0 - dV a b m sh)
        · have hcv : changeV a b m sh tol = ⟨3, m.l, m.r⟩ := by unfold changeV; rw [if_neg hr, if_neg hl, if_pos ht]
          rw [hcv]
          obtain ⟨s, s1, s2, _⟩ := n3 (by omega) (by omega)
          rw [Nat.sub_zero] at s1 s2
          obtain ⟨x, x1, x2⟩ := keys_at ha s1
          obtain ⟨y, y1, y2⟩ := keys_at hb s2
          exact .inr (.inr ⟨rfl, by simp only; omega, by simp only; omega, x, y, x1, y1, x2.trans y2.symm⟩)
        · exact absurd (by unfold changeV; rw [if_neg hr, if_neg hl, if_neg ht]) hk0

end Go.Am
