/-
Valid events do not differ from themselves, nor from the same at other times. Conditions: none.
-/
import Derived.Test.YtjpppajbhpbkiaaDoorAmU
import Derived.Test.YtjpppajbhpbkiaaDoorAmSh
set_option linter.unusedSimpArgs false
set_option linter.unusedVariables false
namespace Go.Am

theorem pairs_diag : ∀ (A : List Str) (i k : Nat), ∀ m ∈ pairsS A A i k, ∃ j : Nat, j < A.length ∧ m = ⟨((i + j : Nat) : Int), ((k + j : Nat) : Int)⟩
  | [], i, k, m, hm => by rw [pairsS] at hm; cases hm
  | a :: l, i, k, m, hm => by
    rw [pairsS, if_pos rfl] at hm
    rcases List.mem_cons.1 hm with rfl | hm
    · exact ⟨0, by simp, rfl⟩
    · obtain ⟨j, hj, rfl⟩ := pairs_diag l (i + 1) (k + 1) m hm
      refine ⟨j + 1, by simp; omega, ?_⟩
      rw [show i + 1 + j = i + (j + 1) by omega, show k + 1 + j = k + (j + 1) by omega]

theorem fAt_of {l : List Ev} {j : Nat} {x : Ev} (h : l[j]? = some x) : fAt l (j : Int) = x.f := by
  unfold fAt
  rw [Int.toNat_natCast, h]
  rfl

theorem okL_at {l : List Ev} (h : okL l = true) {j : Nat} {x : Ev} (hx : l[j]? = some x) : x.ok = true := by
  unfold okL at h
  rw [List.all_eq_true] at h
  exact h x (List.mem_of_getElem? hx)

/-- Events with the same cores at times that differ by n. -/
theorem diff_self {a b : List Ev} (n tol : Int) (ha : okL a = true) (hb : okL b = true) (hk : keysL a = keysL b) (hl : a.length = b.length)
    (hn : ∀ j, j < a.length → fAt b (j : Int) - fAt a (j : Int) = n) (hnr : a ≠ [] → -9223372036854775808 ≤ n ∧ n ≤ 9223372036854775807) (ht : 0 ≤ tol) : diffR a b tol = ([], 0) := by
  have hd : ∀ m ∈ matchesL a b, ∃ j : Nat, j < a.length ∧ m = ⟨(j : Int), (j : Int)⟩ := fun m hm => by
    unfold matchesL pairsL at hm
    rw [← hk] at hm
    obtain ⟨j, hj, rfl⟩ := pairs_diag _ 0 0 m hm
    rw [keys_len ha] at hj
    exact ⟨j, hj, by rw [Nat.zero_add]⟩
  have hsh : matchesL a b ≠ [] → shiftV a b (matchesL a b) = n := fun hne => by
    cases hm : matchesL a b with
    | nil => exact absurd hm hne
    | cons m ms =>
      obtain ⟨j, hj, rfl⟩ := hd m (by rw [hm]; simp)
      rw [shiftV, if_pos ⟨by simp only; omega, by simp only; omega⟩, hn j hj]
      have hane : a ≠ [] := fun e => by rw [e] at hj; simp at hj
      have := hnr hane
      exact IntWalk.i64_in _ (by omega)
  have hdl : diffL a b (shiftV a b (matchesL a b)) tol (matchesL a b) = [] := by
    unfold diffL
    rw [List.flatMap_eq_nil_iff]
    intro m hm
    obtain ⟨j, hj, rfl⟩ := hd m hm
    have hane : a ≠ [] := fun e => by rw [e] at hj; simp at hj
    have hr := hnr hane
    have e1 : dV a b ⟨(j : Int), (j : Int)⟩ (shiftV a b (matchesL a b)) = 0 := by
      unfold dV
      rw [hsh (fun e => by rw [e] at hm; cases hm), hn j hj, IntWalk.i64_in n (by omega), Int.sub_self]
      rfl
    have : changeV a b ⟨(j : Int), (j : Int)⟩ (shiftV a b (matchesL a b)) tol = ⟨0, 0, 0⟩ := by
      unfold changeV
      rw [if_neg (by simp only; omega), if_neg (by simp only; omega), e1, if_neg]
      rintro (h | h)
      · omega
      · have : IntKind.i64.wrap (0 - 0) = 0 := rfl
        omega
    rw [this]
    rfl
  unfold diffR
  rw [if_neg (by rintro (h | h | h); omega; rw [ha] at h; cases h; rw [hb] at h; cases h), hdl]

theorem diff_same (a : List Ev) (tol : Int) (ha : okL a = true) (ht : 0 ≤ tol) : diffR a a tol = ([], 0) :=
  diff_self 0 tol ha ha rfl rfl (fun j _ => Int.sub_self _) (fun _ => by omega) ht

theorem shE_core (n : Int) (x : Ev) : (sh n x).core = x.core := rfl

theorem keys_shift {l : List Ev} {n : Int} (h1 : okL l = true) (h2 : okL (l.map (sh n)) = true) : keysL l = keysL (l.map (sh n)) := by
  unfold keysL
  rw [if_pos h1, if_pos h2, List.map_map]
  apply List.map_congr_left
  intro x hx
  unfold okL at h1 h2
  rw [List.all_eq_true] at h1 h2
  have e1 := h1 x hx
  have e2 := h2 (sh n x) (List.mem_map_of_mem hx)
  simp only [Function.comp, keyL]
  rw [if_pos e1, if_pos e2, shE_core]

theorem fAt_map {l : List Ev} {n : Int} {j : Nat} (hj : j < l.length) : fAt (l.map (sh n)) (j : Int) = fAt l (j : Int) + n := by
  obtain ⟨x, hx⟩ : ∃ x, l[j]? = some x := ⟨_, List.getElem?_eq_getElem hj⟩
  rw [fAt_of hx, fAt_of (x := sh n x) (by rw [List.getElem?_map, hx]; rfl)]
  rfl

theorem shift_range {l : List Ev} {n : Int} (h1 : okL l = true) (h2 : okL (l.map (sh n)) = true) (hne : l ≠ []) : -1099511627776 ≤ n ∧ n ≤ 1099511627776 := by
  cases l with
  | nil => exact absurd rfl hne
  | cons x l =>
    have e1 := okL_at h1 (j := 0) (x := x) rfl
    have e2 := okL_at h2 (j := 0) (x := sh n x) rfl
    rw [Ev.ok_iff] at e1 e2
    simp only [sh] at e2
    omega

theorem diff_shift (l : List Ev) (n tol : Int) (h1 : okL l = true) (h2 : okL (l.map (sh n)) = true) (ht : 0 ≤ tol) : diffR l (l.map (sh n)) tol = ([], 0) ∧ diffR (l.map (sh n)) l tol = ([], 0) := by
  refine ⟨diff_self n tol h1 h2 (keys_shift h1 h2) (by simp) (fun j hj => by rw [fAt_map hj]; omega) (fun hne => by have := shift_range h1 h2 hne; omega) ht, ?_⟩
  refine diff_self (-n) tol h2 h1 (keys_shift h1 h2).symm (by simp) (fun j hj => ?_) (fun hne => ?_) ht
  · rw [List.length_map] at hj
    rw [fAt_map hj]; omega
  · have := shift_range h1 h2 (fun e => hne (by rw [e]; rfl)); omega

end Go.Am
