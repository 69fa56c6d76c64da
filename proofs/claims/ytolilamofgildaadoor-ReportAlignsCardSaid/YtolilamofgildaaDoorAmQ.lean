/-
Where the cells of a table's row stand. Conditions: those that each theorem names.
-/
import Derived.Test.YtolilamofgildaaDoorAmB
set_option linter.unusedSimpArgs false
set_option linter.unusedVariables false
namespace Go.Am

/-- Where column c begins. -/
def posn : List Nat → Nat → Nat
  | _, 0 => 0
  | [], _ + 1 => 0
  | w :: ws, c + 1 => w + 2 + posn ws c

theorem rowTxt_skip {w : Nat} {ws : List Nat} {s : List UInt8} {t : List (List UInt8)} (ht : t ≠ []) (hs : s.length ≤ w) (k : Nat) : (rowTxt (w :: ws) (s :: t)).drop (w + 2 + k) = (rowTxt ws t).drop k := by
  have e : rowTxt (w :: ws) (s :: t) = s ++ (List.replicate (w - s.length + 2) 32 ++ rowTxt ws t) := by
    cases t with
    | nil => exact absurd rfl ht
    | cons a t => simp [rowTxt]
  rw [e, List.drop_append, List.drop_append, List.length_replicate]
  rw [List.drop_of_length_le (show s.length ≤ w + 2 + k by omega), List.drop_of_length_le (by rw [List.length_replicate]; omega)]
  rw [show w + 2 + k - s.length - (w - s.length + 2) = k by omega]
  rfl

theorem rowTxt_at : ∀ {w : List Nat} {r : List (List UInt8)} {c : Nat} {s : List UInt8}, fitsW w r → r[c]? = some s → ∃ b, (rowTxt w r).drop (posn w c) = s ++ (if c + 1 = r.length then [] else List.replicate (b + 2) 32 ++ (rowTxt w r).drop (posn w (c + 1))) ∧ posn w (c + 1) = posn w c + s.length + (b + 2)
  | [], [], _, _, _, h => by simp at h
  | [], _ :: _, _, _, h, _ => h.elim
  | _ :: _, [], _, _, h, _ => h.elim
  | w :: ws, s0 :: t, 0, s, hf, h => by
    simp only [List.getElem?_cons_zero, Option.some.injEq] at h
    subst h
    have h1 := hf.1
    refine ⟨w - s0.length, ?_, by show w + 2 + posn ws 0 = 0 + s0.length + _; cases ws <;> (show w + 2 + 0 = _; omega)⟩
    cases t with
    | nil => simp [rowTxt, posn]
    | cons a t =>
      have hne : ¬ (0 + 1 = (s0 :: a :: t).length) := by simp
      have hp : posn (w :: ws) (0 + 1) = w + 2 + 0 := by cases ws <;> rfl
      rw [if_neg hne, hp, rowTxt_skip (by simp) h1]
      simp [rowTxt, posn]
  | w :: ws, s0 :: t, c + 1, s, hf, h => by
    simp only [List.getElem?_cons_succ] at h
    have ht : t ≠ [] := fun e => by subst e; simp at h
    obtain ⟨b, h2, h3⟩ := rowTxt_at (c := c) hf.2 h
    refine ⟨b, ?_, by show w + 2 + posn ws (c + 1) = w + 2 + posn ws c + s.length + (b + 2); omega⟩
    show (rowTxt (w :: ws) (s0 :: t)).drop (w + 2 + posn ws c) = s ++ (if c + 1 + 1 = (s0 :: t).length then [] else List.replicate (b + 2) 32 ++ (rowTxt (w :: ws) (s0 :: t)).drop (w + 2 + posn ws (c + 1)))
    rw [rowTxt_skip ht hf.1, rowTxt_skip ht hf.1, h2]
    have : (c + 1 + 1 = (s0 :: t).length) = (c + 1 = t.length) := by rw [List.length_cons]; exact propext ⟨fun h => by omega, fun h => by omega⟩
    simp only [this]

theorem rowTxt_plain : ∀ {w : List Nat} {r : List (List UInt8)}, (∀ s ∈ r, CellP s) → ∀ b ∈ rowTxt w r, 32 ≤ b.toNat
  | _, [], _, b, h => by simp [rowTxt] at h
  | [], _ :: _, _, b, h => by simp [rowTxt] at h
  | w :: ws, s :: t, hc, b, h => by
    have h32 : (32 : UInt8).toNat = 32 := rfl
    unfold rowTxt at h
    rcases List.mem_append.1 h with h | h
    · exact ((hc s (by simp)).plain b h).1
    · split at h
      · cases h
      · rcases List.mem_append.1 h with h | h
        · rw [List.eq_of_mem_replicate h]; omega
        · exact rowTxt_plain (fun s hs => hc s (by simp [hs])) b h

theorem drop_at {txt R : List UInt8} {at' : Nat} {q : List UInt8} (h : txt.drop at' = R ++ 10 :: q) {i : Nat} (hi : i < R.length) : txt[at' + i]? = R[i]? := by
  have := congrArg (fun l => l[i]?) h
  simp only [List.getElem?_drop] at this
  rw [this, List.getElem?_append_left hi]

theorem row_cols {txt : List UInt8} {at' : Nat} {w : List Nat} {r : List (List UInt8)} {q : List UInt8} (hD : txt.drop at' = rowTxt w r ++ 10 :: q) (hf : fitsW w r) (hc : ∀ s ∈ r, CellP s) {c : Nat} {s : List UInt8} (hs : r[c]? = some s) :
    posn w c + s.length ≤ (rowTxt w r).length ∧ (txt.drop (at' + posn w c)).take s.length = s ∧ (∃ x, txt[at' + posn w c]? = some x ∧ x ≠ 32) ∧ posn w c < (rowTxt w r).length ∧
    (c + 1 = r.length → posn w c + s.length = (rowTxt w r).length ∧ ∃ x, txt[at' + (rowTxt w r).length - 1]? = some x ∧ x ≠ 32) ∧
    (c + 1 < r.length → posn w c + s.length + 2 ≤ posn w (c + 1) ∧ ∀ j, posn w c + s.length ≤ j → j < posn w (c + 1) → txt[at' + j]? = some 32) := by
  have hs' := hc s (List.mem_of_getElem? hs)
  obtain ⟨b, h1, h2⟩ := rowTxt_at hf hs
  have hl := congrArg List.length h1
  rw [List.length_drop, List.length_append] at hl
  have hne : 0 < s.length := List.length_pos_iff.2 hs'.ne
  have hp : posn w c < (rowTxt w r).length := by omega
  have ha : ∀ i, i < s.length → (rowTxt w r)[posn w c + i]? = s[i]? := fun i hi => by
    have := congrArg (fun l => l[i]?) h1
    simp only [List.getElem?_drop] at this
    rw [this, List.getElem?_append_left hi]
  have hd2 : txt.drop (at' + posn w c) = (rowTxt w r).drop (posn w c) ++ 10 :: q := by
    rw [← List.drop_drop, hD, List.drop_append_of_le_length (by omega)]
  refine ⟨by omega, ?_, ?_, hp, fun e => ?_, fun e => ?_⟩
  · rw [hd2, h1, List.append_assoc, List.take_left]
  · obtain ⟨x, t, rfl⟩ : ∃ x t, s = x :: t := by
      cases s with
      | nil => exact absurd rfl hs'.ne
      | cons x t => exact ⟨x, t, rfl⟩
    refine ⟨x, ?_, fun h => hs'.first (by rw [h]; rfl)⟩
    rw [drop_at hD hp]
    have := ha 0 hne
    simpa using this
  · rw [if_pos e] at hl
    have el : posn w c + s.length = (rowTxt w r).length := by simp at hl; omega
    refine ⟨el, ?_⟩
    have h3 := ha (s.length - 1) (by omega)
    rw [← List.getLast?_eq_getElem?] at h3
    cases hx : s.getLast? with
    | none => rw [List.getLast?_eq_none_iff] at hx; exact absurd hx hs'.ne
    | some x =>
      refine ⟨x, ?_, fun h => hs'.last (by rw [hx, h])⟩
      rw [show at' + (rowTxt w r).length - 1 = at' + (posn w c + (s.length - 1)) by omega, drop_at hD (by omega), h3, hx]
  · rw [if_neg (by omega)] at h1 hl
    rw [List.length_append, List.length_replicate, List.length_drop] at hl
    refine ⟨by omega, fun j hj1 hj2 => ?_⟩
    have h3 := congrArg (fun l => l[j - posn w c]?) h1
    simp only [List.getElem?_drop] at h3
    rw [drop_at hD (by omega), show j = posn w c + (j - posn w c) by omega, h3, List.getElem?_append_right (by omega), List.getElem?_append_left (by rw [List.length_replicate]; omega), List.getElem?_replicate, if_pos (by omega)]

/-- Where the row ends. -/
theorem row_end {txt : List UInt8} {at' : Nat} {w : List Nat} {r : List (List UInt8)} {q : List UInt8} (hD : txt.drop at' = rowTxt w r ++ 10 :: q) (hc : ∀ s ∈ r, CellP s) :
    txt[at' + (rowTxt w r).length]? = some 10 ∧ (∀ j, at' ≤ j → j < at' + (rowTxt w r).length → ∃ x, txt[j]? = some x ∧ x ≠ 10) ∧ at' + (rowTxt w r).length + 1 + q.length = txt.length := by
  have hl := congrArg List.length hD
  rw [List.length_drop, List.length_append, List.length_cons] at hl
  refine ⟨?_, fun j h1 h2 => ?_, by omega⟩
  · have := congrArg (fun l => l[(rowTxt w r).length]?) hD
    simp only [List.getElem?_drop] at this
    rw [this, List.getElem?_append_right (Nat.le_refl _), Nat.sub_self]
    rfl
  · have h3 := drop_at hD (i := j - at') (by omega)
    rw [show at' + (j - at') = j by omega] at h3
    have h4 : (rowTxt w r)[j - at']? = some (rowTxt w r)[j - at'] := List.getElem?_eq_getElem (by omega)
    refine ⟨_, h3.trans h4, fun e => ?_⟩
    have h5 := rowTxt_plain (w := w) hc _ (List.getElem_mem (by omega : j - at' < (rowTxt w r).length))
    rw [e] at h5
    exact absurd h5 (by decide)

/-- The columns' places as cells. -/
def placesC (w : List Nat) (m : Nat) : List AV := (List.range m).map fun c => .int .i64 (posn w c)
theorem placesC_len (w : List Nat) (m : Nat) : (placesC w m).length = m := by simp [placesC]
theorem placesC_succ (w : List Nat) (m : Nat) : placesC w (m + 1) = placesC w m ++ [.int .i64 (posn w m)] := by simp [placesC, List.range_succ]
theorem placesC_at (w : List Nat) {m c : Nat} (h : c < m) : (placesC w m)[c]? = some (.int .i64 (posn w c)) := by simp [placesC, h]

end Go.Am
