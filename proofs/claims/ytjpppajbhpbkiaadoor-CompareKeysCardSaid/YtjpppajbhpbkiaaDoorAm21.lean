/-
A region that draws its order, continued: what the compiler tells of a region is so. Conditions: the compiler's own checks.
-/
import Derived.Test.YtjpppajbhpbkiaaDoorAm20
set_option linter.unusedSimpArgs false
set_option linter.unusedVariables false
namespace Go.Am
open Go.RowKit

theorem nodup_filterMap {α : Type} {f : α → Option Nat} : ∀ {l : List α}, nodup (l.filterMap f) = true → ∀ {j k : Nat} {x y : α} {t : Nat}, l[j]? = some x → l[k]? = some y → f x = some t → f y = some t → j = k
  | [], _, j, k, x, y, t, hj, _, _, _ => by simp at hj
  | z :: l, h, j, k, x, y, t, hj, hk, hx, hy => by
    have mem : ∀ {i : Nat} {u : α}, l[i]? = some u → f u = some t → t ∈ l.filterMap f := fun hi hu => List.mem_filterMap.2 ⟨_, List.mem_of_getElem? hi, hu⟩
    have hl : nodup (l.filterMap f) = true := by
      cases hz : f z with
      | none => simpa [hz] using h
      | some u => simp only [List.filterMap_cons, hz, nodup, Bool.and_eq_true] at h; exact h.2
    cases j with
    | zero =>
      cases k with
      | zero => rfl
      | succ k =>
        simp at hj hk; subst hj
        simp only [List.filterMap_cons, hx, nodup, Bool.and_eq_true, Bool.not_eq_true'] at h
        have := mem hk hy
        have h1 := h.1
        exact absurd this (by simpa using h1)
    | succ j =>
      cases k with
      | zero =>
        simp at hj hk; subst hk
        simp only [List.filterMap_cons, hy, nodup, Bool.and_eq_true, Bool.not_eq_true'] at h
        have := mem hj hx
        have h1 := h.1
        exact absurd this (by simpa using h1)
      | succ k =>
        simp at hj hk
        rw [nodup_filterMap hl hj hk hx hy]

def dsOf (o : Oper) : List Nat := (o.after.toList.filter fun e => Region.binds .any e).map (·.on)

theorem depsAll_spec : ∀ (l : List Oper) (acc : List (List Nat)), ∃ rest, depsAll l acc = acc ++ rest ∧ rest.length = l.length ∧
    ∀ (k : Nat) (o : Oper), l[k]? = some o → ∀ x, x ∈ rest.getD k [] ↔ x ∈ dsOf o ∨ ∃ y ∈ dsOf o, x ∈ (acc ++ rest.take k).getD y []
  | [], acc => ⟨[], by simp [depsAll], rfl, fun k o hk => by simp at hk⟩
  | o :: os, acc => by
    obtain ⟨rest, h1, h2, h3⟩ := depsAll_spec os (acc ++ [(dsOf o ++ (dsOf o).flatMap fun d => acc.getD d []).eraseDups])
    refine ⟨(dsOf o ++ (dsOf o).flatMap fun d => acc.getD d []).eraseDups :: rest, ?_, by simp [h2], fun k p hk x => ?_⟩
    · simp only [depsAll]
      rw [show (List.map (fun x => x.on) (List.filter (fun e => Region.binds Region.Mode.any e) o.after.toList)) = dsOf o from rfl, h1]
      simp
    · cases k with
      | zero =>
        simp at hk; subst hk
        simp [List.mem_eraseDups, List.mem_flatMap]
      | succ k =>
        have := h3 k p (by simpa using hk) x
        simpa using this

variable {P : Program} {nt : Nat} {ops : Array Oper}

theorem dins_get {j : Nat} {d : DIns} (h : (dins P nt ops)[j]? = some d) : ∃ o, ops[j]? = some o ∧ d.ins = cins P nt ops o ∧ d.deps = (depsAll ops.toList []).getD j [] ∧
    d.late = (List.range ops.size).filter (fun k => ((depsAll ops.toList []).getD k []).contains j) ∧
    (d.kind ≠ 0 → heapOp (cins P nt ops o).op = true) ∧ (heapOp (cins P nt ops o).op = false → d.kind = 0) ∧
    (d.kind ≠ 0 → d.kind ≠ 1 → ∀ k q, ops[k]? = some q → k = j ∨ heapOp (cins P nt ops q).op = false ∨ k ∈ d.deps ∨ k ∈ d.late) := by
  unfold dins at h
  simp only [List.getElem?_map, List.getElem?_zipIdx, Option.map_eq_some_iff, Prod.exists, Array.getElem?_toList] at h
  obtain ⟨i, k, ⟨i', ⟨o, ho, rfl⟩, h1⟩, rfl⟩ := h
  simp at h1
  obtain ⟨rfl, rfl⟩ := h1
  have hlt : j < ops.size := (Array.getElem?_eq_some_iff.1 ho).1
  have hheap : ∀ k q, ops[k]? = some q → ((ops.toList.map (cins P nt ops)).map fun i => heapOp i.op).getD k true = heapOp (cins P nt ops q).op := fun k q hk => by
    simp [List.getElem?_map, hk]
  refine ⟨o, ho, rfl, rfl, by simp, ?_, ?_, ?_⟩
  · simp only [hheap j o ho]
    intro h1
    cases hx : heapOp (cins P nt ops o).op with
    | true => rfl
    | false => simp [hx] at h1
  · intro hx
    simp only [hheap j o ho, hx]
    rfl
  · intro h1 h2 k q hk
    simp only [hheap j o ho] at h1 h2
    have hx : heapOp (cins P nt ops o).op = true := by
      cases hx : heapOp (cins P nt ops o).op with
      | true => rfl
      | false => simp [hx] at h1
    simp only [hx, Bool.not_true, Bool.false_eq_true, if_false] at h1 h2
    split at h2
    · rename_i htot
      rw [List.all_eq_true] at htot
      have hkl : k < ops.size := (Array.getElem?_eq_some_iff.1 hk).1
      have := htot k (by simp [hkl])
      simp only [Bool.or_eq_true, beq_iff_eq, Bool.not_eq_true', hheap k q hk, List.contains_iff_mem] at this
      rcases this with ((h' | h') | h') | h'
      · exact .inl h'
      · exact .inr (.inl h')
      · exact .inr (.inr (.inl h'))
      · exact .inr (.inr (.inr h'))
    · exact absurd rfl h2

theorem dins_length : (dins P nt ops).length = ops.size := by simp [dins]

theorem depsAll_length : (depsAll ops.toList []).length = ops.size := by
  obtain ⟨rest, h1, h2, _⟩ := depsAll_spec ops.toList []
  rw [h1]; simpa using h2

theorem dok_dins (hnd : nodup (ops.toList.filterMap (·.dst)) = true) (hlt : ((dins P nt ops).zipIdx.all fun (o, j) => o.deps.all (· < j)) = true) : DOk P nt ops (dins P nt ops) := by
  obtain ⟨rest, hr1, hr2, hr3⟩ := depsAll_spec ops.toList []
  have hD : depsAll ops.toList [] = rest := by simpa using hr1
  have lt : ∀ {j : Nat} {d : DIns} {x : Nat}, (dins P nt ops)[j]? = some d → x ∈ d.deps → x < j := fun {j d x} hd hx => by
    rw [List.all_eq_true] at hlt
    have := hlt (d, j) (by rw [List.mem_iff_getElem?]; exact ⟨j, by simp [List.getElem?_zipIdx, hd]⟩)
    rw [List.all_eq_true] at this
    simpa using this x hx
  have late : ∀ {j k : Nat} {dj dk : DIns}, (dins P nt ops)[j]? = some dj → (dins P nt ops)[k]? = some dk → (k ∈ dj.late ↔ j ∈ dk.deps) := fun {j k dj dk} hj hk => by
    obtain ⟨oj, hoj, _, _, l1, _⟩ := dins_get hj
    obtain ⟨ok, hok, _, d2, _⟩ := dins_get hk
    rw [l1, d2]
    simp only [List.mem_filter, List.mem_range, List.contains_iff_mem]
    exact ⟨fun h => h.2, fun h => ⟨(Array.getElem?_eq_some_iff.1 hok).1, h⟩⟩
  refine ⟨dins_length, ?_, ?_, ?_, late, lt, ?_, ?_⟩
  · intro j o d ho hd
    obtain ⟨o', ho', h1, _⟩ := dins_get hd
    rw [ho] at ho'; simp at ho'; subst ho'; exact h1
  · intro S j o d ho hd hclos hedge x hx
    obtain ⟨o', ho', _, h2, _⟩ := dins_get hd
    rw [ho] at ho'; simp at ho'; subst ho'
    rw [h2, hD] at hx
    have hds : ∀ y ∈ dsOf o, S y := fun y hy => by
      unfold dsOf at hy
      simp only [List.mem_map, List.mem_filter] at hy
      obtain ⟨e, ⟨he, hb⟩, rfl⟩ := hy
      exact hedge e he hb
    rcases (hr3 j o (by simpa using ho) x).1 hx with h | ⟨y, hy, hxy⟩
    · exact hds x h
    · simp only [List.nil_append] at hxy
      have hxy' : x ∈ rest.getD y [] := by
        simp only [List.getD_eq_getElem?_getD, List.getElem?_take] at hxy ⊢
        split at hxy
        · exact hxy
        · simp at hxy
      have hyl : y < ops.size := by
        rcases Nat.lt_or_ge y ops.size with h' | h'
        · exact h'
        · rw [List.getD_eq_getElem?_getD, List.getElem?_eq_none (by simp at hr2; omega)] at hxy'
          simp at hxy'
      obtain ⟨dy, hdy⟩ := Tr.some_of (is := dins P nt ops) (j := y) (by rw [dins_length]; exact hyl)
      obtain ⟨oy, _, _, d2, _⟩ := dins_get hdy
      exact hclos y dy (hds y hy) hdy x (by rw [d2, hD]; exact hxy')
  · intro j o d ho hd e he hb
    obtain ⟨o', ho', _, h2, _⟩ := dins_get hd
    rw [ho] at ho'; simp at ho'; subst ho'
    rw [h2, hD]
    refine (hr3 j o (by simpa using ho) e.on).2 (.inl ?_)
    unfold dsOf
    simp only [List.mem_map, List.mem_filter]
    exact ⟨e, ⟨he, hb⟩, rfl⟩
  · intro j d k dk hd h0 h1 hk hne hk0
    obtain ⟨oj, hoj, _, _, _, _, _, h7⟩ := dins_get hd
    obtain ⟨ok, hok, _, _, _, h5, h6, _⟩ := dins_get hk
    rcases h7 h0 h1 k ok hok with h | h | h | h
    · exact absurd h hne
    · exact absurd (h6 h) hk0
    · exact .inl h
    · exact .inr h
  · intro j k d dk t hj hk h1 h2
    obtain ⟨oj, hoj, e1, _⟩ := dins_get hj
    obtain ⟨ok, hok, e2, _⟩ := dins_get hk
    have hh : ∀ o : Oper, (cins P nt ops o).dst = some t → o.dst = some t := fun o ho => by
      rcases cins_cases P nt ops o with hbad | ⟨_, hdst, _⟩
      · rw [hbad] at ho; cases ho
      · rw [← hdst]; exact ho
    exact nodup_filterMap hnd (by simpa using hoj) (by simpa using hok) (hh oj (by rw [← e1]; exact h1)) (hh ok (by rw [← e2]; exact h2))

end Go.Am
