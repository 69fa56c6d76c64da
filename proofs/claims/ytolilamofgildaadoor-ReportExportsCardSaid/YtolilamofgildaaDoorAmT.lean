/-
Counts: plain words, and the program's. Conditions: those that each theorem names.
-/
import Derived.Test.YtolilamofgildaaDoorAmKa
import Derived.Test.YtolilamofgildaaDoorAmM
set_option linter.unusedSimpArgs false
set_option linter.unusedVariables false
namespace Go.Am

/-- What a node emitted. -/
structure OutR where
  node : Int
  at' : Int
  ev : Ev
def OutR.cells (x : OutR) : List AV := .int .i64 x.node :: .int .i64 x.at' :: x.ev.cells
theorem OutR.cells_len (x : OutR) : x.cells.length = 9 := rfl
theorem OutR.sol (x : OutR) : x.cells.all solid = true := rfl
theorem OutR.flat (x : OutR) : x.cells.all flat1 = true := rfl
theorem outs_flat (l : List OutR) : (rowsOf OutR.cells l).all flat1 = true := by
  induction l with
  | nil => rfl
  | cons x l ih => simp only [rowsOf, List.flatMap_cons, List.all_append] at ih ⊢; rw [ih, x.flat]; rfl

/-- Pairs of numbers as cells. -/
def tabF : Nat → (Nat → Nat) → (Nat → Nat) → List AV
  | 0, _, _ => []
  | n + 1, f, g => tabF n f g ++ [.int .i64 (f n : Nat), .int .i64 (g n : Nat)]
theorem tabF_len : ∀ (n : Nat) (f g : Nat → Nat), (tabF n f g).length = n * 2
  | 0, _, _ => rfl
  | n + 1, f, g => by rw [tabF, List.length_append, tabF_len n]; simp; omega
theorem tabF_flat : ∀ (n : Nat) (f g : Nat → Nat), (tabF n f g).all flat1 = true
  | 0, _, _ => rfl
  | n + 1, f, g => by rw [tabF, List.all_append, tabF_flat n]; rfl
theorem tabF_at0 : ∀ (n : Nat) (f g : Nat → Nat) (j : Nat), j < n → (tabF n f g)[j * 2]? = some (.int .i64 (f j : Nat))
  | 0, _, _, j, h => by omega
  | n + 1, f, g, j, h => by
    unfold tabF
    by_cases hj : j < n
    · rw [List.getElem?_append_left (by rw [tabF_len]; omega), tabF_at0 n f g j hj]
    · obtain rfl : j = n := by omega
      rw [List.getElem?_append_right (by rw [tabF_len]; omega), tabF_len, Nat.sub_self]; rfl
theorem tabF_at1 : ∀ (n : Nat) (f g : Nat → Nat) (j : Nat), j < n → (tabF n f g)[j * 2 + 1]? = some (.int .i64 (g j : Nat))
  | 0, _, _, j, h => by omega
  | n + 1, f, g, j, h => by
    unfold tabF
    by_cases hj : j < n
    · rw [List.getElem?_append_left (by rw [tabF_len]; omega), tabF_at1 n f g j hj]
    · obtain rfl : j = n := by omega
      rw [List.getElem?_append_right (by rw [tabF_len]; omega), tabF_len, show j * 2 + 1 - j * 2 = 1 by omega]; rfl
theorem tabF_ext : ∀ (n : Nat) (f f' g g' : Nat → Nat), (∀ j, j < n → f j = f' j ∧ g j = g' j) → tabF n f g = tabF n f' g'
  | 0, _, _, _, _, _ => rfl
  | n + 1, f, f', g, g', h => by
    rw [tabF, tabF, tabF_ext n f f' g g' fun j hj => h j (by omega), (h n (by omega)).1, (h n (by omega)).2]
theorem tabF_set0 : ∀ (n : Nat) (f f' g : Nat → Nat) (j : Nat), j < n → (∀ i, i ≠ j → f' i = f i) → (tabF n f g).set (j * 2) (.int .i64 (f' j : Nat)) = tabF n f' g
  | 0, _, _, _, j, h, _ => by omega
  | n + 1, f, f', g, j, h, hf => by
    rw [tabF, tabF]
    by_cases hj : j < n
    · rw [List.set_append_left _ _ (by rw [tabF_len]; omega), tabF_set0 n f f' g j hj hf, hf n (by omega)]
    · obtain rfl : j = n := by omega
      rw [List.set_append_right _ _ (by rw [tabF_len]; omega), tabF_len, Nat.sub_self, tabF_ext j f f' g g fun i hi => ⟨(hf i (by omega)).symm, rfl⟩]; rfl
theorem tabF_set1 : ∀ (n : Nat) (f g g' : Nat → Nat) (j : Nat), j < n → (∀ i, i ≠ j → g' i = g i) → (tabF n f g).set (j * 2 + 1) (.int .i64 (g' j : Nat)) = tabF n f g'
  | 0, _, _, _, j, h, _ => by omega
  | n + 1, f, g, g', j, h, hf => by
    rw [tabF, tabF]
    by_cases hj : j < n
    · rw [List.set_append_left _ _ (by rw [tabF_len]; omega), tabF_set1 n f g g' j hj hf, hf n (by omega)]
    · obtain rfl : j = n := by omega
      rw [List.set_append_right _ _ (by rw [tabF_len]; omega), tabF_len, show j * 2 + 1 - j * 2 = 1 by omega, tabF_ext j f f g g' fun i hi => ⟨rfl, (hf i (by omega)).symm⟩]; rfl

/-- The outs of a node, and those with a fault. -/
def cn0 (l : List OutR) (j : Nat) : Nat := l.countP fun x => x.node == (j : Int)
def cn1 (l : List OutR) (j : Nat) : Nat := l.countP fun x => x.node == (j : Int) && x.ev.ft != 0
theorem cn1_le (l : List OutR) (j : Nat) : cn1 l j ≤ cn0 l j := List.countP_mono_left fun x _ h => by simp only [Bool.and_eq_true] at h; exact h.1
theorem cn0_le (l : List OutR) (j : Nat) : cn0 l j ≤ l.length := List.countP_le_length

theorem cn0_step {l : List OutR} {i : Nat} {x : OutR} (h : l[i]? = some x) (j : Nat) : cn0 (l.take (i + 1)) j = cn0 (l.take i) j + if x.node = (j : Int) then 1 else 0 := by
  unfold cn0
  rw [List.take_add_one, h]
  simp [List.countP_append, List.countP_cons]
theorem cn1_step {l : List OutR} {i : Nat} {x : OutR} (h : l[i]? = some x) (j : Nat) : cn1 (l.take (i + 1)) j = cn1 (l.take i) j + if x.node = (j : Int) ∧ x.ev.ft ≠ 0 then 1 else 0 := by
  unfold cn1
  rw [List.take_add_one, h]
  simp [List.countP_append, List.countP_cons]

/-- The nodes that are counted. -/
def nnOf (n : Int) : Nat := (min n 16).toNat

theorem views_one {H : AH} {z : Nat} {v : AV} {n : Nat} {cs : List AV} (h : SliceV H z v n cs) (f : cs.all flat1 = true) (k : Nat) {rest us : List AV} (hr : ∀ k, views H rest k = some (us, [], k)) :
    ∃ w bs kq, views H (v :: rest) k = some (w :: us, bs, kq) ∧ SliceV ⟨bs ++ [], kq, kq⟩ z w n cs ∧ Names ⟨bs ++ [], kq, kq⟩ ∧ k ≤ kq ∧ ∀ i o z n c, w = .sl i o z n c → i < kq := by
  obtain ⟨w, bs, k1, a1, a2, a3, a4, a5⟩ := h.view f k
  refine ⟨w, bs ++ [], k1, a3 (hr k1), a5 _ fun i hi hi' => ?_, fun x hx => ?_, a1, fun i o z n c e => (a4 i o z n c e).2⟩
  · show lk (bs ++ [] ++ []) i = lk bs i
    simp
  · show x.1 < k1
    simp only [List.append_nil] at hx
    exact (a2 x hx).2

end Go.Am
