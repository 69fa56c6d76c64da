/-
Report in plain words: cells, tables, lines. Conditions: those that each theorem names.
-/
import Derived.Test.YtolilamofgildaaDoorMc
import Derived.Lib.IndexMore
import Derived.Lib.TrimByte
set_option linter.unusedSimpArgs false
set_option linter.unusedVariables false
namespace Go.Am

/-! ### Cells -/

/-- Two blanks, one behind the other. -/
def dbl : List UInt8 → Bool
  | [] => false
  | c :: t => (c == 32 && t.head? == some 32) || dbl t

def cellB (s : List UInt8) : Bool := (s != []) && decide (s.length ≤ 1048576) && (s.head? != some 32) && (s.getLast? != some 32) && !dbl s && s.all fun b => decide (32 ≤ b.toNat) && decide (b.toNat ≤ 126)

structure CellP (s : List UInt8) : Prop where
  ne : s ≠ []
  len : s.length ≤ 1048576
  first : s.head? ≠ some 32
  last : s.getLast? ≠ some 32
  single : dbl s = false
  plain : ∀ b ∈ s, 32 ≤ b.toNat ∧ b.toNat ≤ 126

theorem cellB_iff (s : List UInt8) : cellB s = true ↔ CellP s := by
  unfold cellB
  simp only [Bool.and_eq_true, bne_iff_ne, ne_eq, decide_eq_true_eq, Bool.not_eq_true', List.all_eq_true]
  exact ⟨fun ⟨⟨⟨⟨⟨a, b⟩, c⟩, d⟩, e⟩, f⟩ => ⟨a, b, c, d, e, f⟩, fun h => ⟨⟨⟨⟨⟨h.ne, h.len⟩, h.first⟩, h.last⟩, h.single⟩, h.plain⟩⟩

def rowB (n : Nat) (r : List (List UInt8)) : Bool := (r != []) && (r.length == n) && r.all cellB
def tabB (rows : List (List (List UInt8))) : Bool := rows.all (rowB (rows.headD []).length)

/-! ### Widths -/

def wid (n : Nat) (rows : List (List (List UInt8))) : List Nat := rows.foldl (fun w r => List.zipWith max w (r.map List.length)) (List.replicate n 0)

/-- The widths have room for a row. -/
def fitsW : List Nat → List (List UInt8) → Prop
  | [], [] => True
  | w :: ws, s :: t => s.length ≤ w ∧ fitsW ws t
  | _, _ => False

theorem fitsW_zip : ∀ {w : List Nat} {r : List (List UInt8)}, w.length = r.length → fitsW (List.zipWith max w (r.map List.length)) r
  | [], [], _ => trivial
  | [], _ :: _, h => by simp at h
  | _ :: _, [], h => by simp at h
  | w :: ws, s :: t, h => ⟨Nat.le_max_right _ _, fitsW_zip (by simpa using h)⟩
theorem fitsW_more : ∀ {w : List Nat} {r q : List (List UInt8)}, fitsW w r → q.length = w.length → fitsW (List.zipWith max w (q.map List.length)) r
  | [], [], [], _, _ => trivial
  | _ :: _, _, [], _, h => by simp at h
  | [], _, _ :: _, _, h => by simp at h
  | [], _ :: _, _, h, _ => h.elim
  | _ :: _, [], _, h, _ => h.elim
  | w :: ws, s :: t, q :: qs, h, hl => ⟨Nat.le_trans h.1 (Nat.le_max_left _ _), fitsW_more h.2 (by simpa using hl)⟩
theorem fitsW_len : ∀ {w : List Nat} {r : List (List UInt8)}, fitsW w r → w.length = r.length
  | [], [], _ => rfl
  | [], _ :: _, h => h.elim
  | _ :: _, [], h => h.elim
  | w :: ws, s :: t, h => by simp [fitsW_len h.2]

theorem fold_len {n : Nat} : ∀ {rows : List (List (List UInt8))} {w : List Nat}, w.length = n → (∀ r ∈ rows, r.length = n) → (rows.foldl (fun w r => List.zipWith max w (r.map List.length)) w).length = n
  | [], w, h, _ => h
  | r :: rows, w, h, hr => fold_len (rows := rows) (by simp [h, hr r (by simp)]) fun q hq => hr q (by simp [hq])
theorem fold_fits {n : Nat} : ∀ {rows : List (List (List UInt8))} {w : List Nat}, w.length = n → (∀ r ∈ rows, r.length = n) → ∀ q, (fitsW w q ∨ q ∈ rows) → fitsW (rows.foldl (fun w r => List.zipWith max w (r.map List.length)) w) q
  | [], w, h, _, q, hq => by rcases hq with hq | hq; exact hq; cases hq
  | r :: rows, w, h, hr, q, hq => by
    refine fold_fits (rows := rows) (by simp [h, hr r (by simp)]) (fun q hq => hr q (by simp [hq])) q ?_
    rcases hq with hq | hq
    · exact .inl (fitsW_more hq (by rw [h]; exact hr r (by simp)))
    · rcases List.mem_cons.1 hq with rfl | hq
      · exact .inl (fitsW_zip (by rw [h]; exact (hr q (by simp)).symm))
      · exact .inr hq
theorem wid_fits {n : Nat} {rows : List (List (List UInt8))} (h : ∀ r ∈ rows, r.length = n) : ∀ r ∈ rows, fitsW (wid n rows) r := fun r hr => fold_fits (by simp) h r (.inr hr)
theorem wid_len {n : Nat} {rows : List (List (List UInt8))} (h : ∀ r ∈ rows, r.length = n) : (wid n rows).length = n := fold_len (by simp) h

/-! ### A table's text -/

def rowTxt : List Nat → List (List UInt8) → List UInt8
  | _, [] => []
  | [], _ :: _ => []
  | w :: ws, s :: t => s ++ (if t.isEmpty then [] else List.replicate (w - s.length + 2) 32 ++ rowTxt ws t)
def tabTxt (w : List Nat) (rows : List (List (List UInt8))) : List UInt8 := rows.flatMap fun r => rowTxt w r ++ [10]
/-- The bytes of a row with its line's end. -/
def lenR : List Nat → List (List UInt8) → Nat
  | _, [] => 0
  | [], _ :: _ => 0
  | w :: ws, s :: t => if t.isEmpty then s.length + 1 else w + 2 + lenR ws t

theorem lenR_eq : ∀ {w : List Nat} {r : List (List UInt8)}, r ≠ [] → fitsW w r → lenR w r = (rowTxt w r).length + 1
  | _, [], h, _ => absurd rfl h
  | [], _ :: _, _, h => h.elim
  | w :: ws, s :: t, _, h => by
    unfold lenR rowTxt
    cases t with
    | nil => simp
    | cons s2 t =>
      have := lenR_eq (r := s2 :: t) (by simp) h.2
      have h1 := h.1
      simp only [List.isEmpty_cons, Bool.false_eq_true, if_false, List.length_append, List.length_replicate]
      omega

def tableT (rows : List (List (List UInt8))) : List UInt8 := tabTxt (wid (rows.headD []).length rows) rows
def tableE (rows : List (List (List UInt8))) : Int := if tabB rows = true then (if (tableT rows).length ≤ 1048576 then 0 else 6) else 1
def tableS (rows : List (List (List UInt8))) : List UInt8 := if tableE rows = 0 then tableT rows else []

theorem tabB_len {rows : List (List (List UInt8))} (h : tabB rows = true) : ∀ r ∈ rows, r ≠ [] ∧ r.length = (rows.headD []).length ∧ ∀ s ∈ r, CellP s := fun r hr => by
  unfold tabB at h
  have := List.all_eq_true.1 h r hr
  simp only [rowB, Bool.and_eq_true, bne_iff_ne, ne_eq, beq_iff_eq, List.all_eq_true] at this
  exact ⟨this.1.1, this.1.2, fun s hs => (cellB_iff s).1 (this.2 s hs)⟩

/-! ### The cells of a line -/

def cutDD : List UInt8 → Option (List UInt8 × List UInt8)
  | [] => none
  | c :: t => if c = 32 ∧ t.head? = some 32 then some ([], c :: t) else (cutDD t).map fun p => (c :: p.1, p.2)
def cellsF : Nat → List UInt8 → List (List UInt8)
  | 0, s => [s]
  | n + 1, s => match cutDD s with
    | none => [s]
    | some (a, b) => a :: cellsF n (b.dropWhile (· == 32))
def cellsL (s : List UInt8) : List (List UInt8) := cellsF s.length s

theorem cutDD_none : ∀ {s : List UInt8}, cutDD s = none ↔ dbl s = false
  | [] => by simp [cutDD, dbl]
  | c :: t => by
    unfold cutDD dbl
    by_cases h : c = 32 ∧ t.head? = some 32
    · rw [if_pos h]; simp [h.1, h.2]
    · rw [if_neg h]
      have h2 : (c == 32 && t.head? == some 32) = false := by
        cases hx : (c == 32 && t.head? == some 32) with
        | false => rfl
        | true => simp only [Bool.and_eq_true, beq_iff_eq] at hx; exact absurd hx h
      rw [h2, Bool.false_or, Option.map_eq_none_iff]
      exact cutDD_none

theorem cutDD_some : ∀ {s a b : List UInt8}, cutDD s = some (a, b) → s = a ++ b ∧ ∃ t, b = 32 :: 32 :: t
  | [], a, b, h => by simp [cutDD] at h
  | c :: t, a, b, h => by
    unfold cutDD at h
    split at h
    · rename_i hc
      simp only [Option.some.injEq, Prod.mk.injEq] at h
      obtain ⟨rfl, rfl⟩ := h
      obtain ⟨rfl, hc⟩ := hc
      cases t with
      | nil => simp at hc
      | cons d t => simp at hc; subst hc; exact ⟨rfl, t, rfl⟩
    · simp only [Option.map_eq_some_iff, Prod.mk.injEq, Prod.exists] at h
      obtain ⟨a', b', h1, rfl, rfl⟩ := h
      obtain ⟨h2, h3⟩ := cutDD_some h1
      exact ⟨by rw [h2]; rfl, h3⟩

theorem pre2 (c : UInt8) (t : List UInt8) : [32, 32].isPrefixOf (c :: t) = true ↔ (c = 32 ∧ t.head? = some 32) := by
  cases t with
  | nil => simp [List.isPrefixOf]
  | cons d t => simp [List.isPrefixOf]; exact ⟨fun ⟨a, b⟩ => ⟨a.symm, b.symm⟩, fun ⟨a, b⟩ => ⟨a.symm, b.symm⟩⟩

theorem index_dd : ∀ (s : List UInt8), Lib.index s [32, 32] = match cutDD s with | none => -1 | some (a, _) => (a.length : Int)
  | [] => rfl
  | c :: t => by
    unfold Lib.index cutDD
    by_cases h : c = 32 ∧ t.head? = some 32
    · rw [if_pos h, if_pos ((pre2 c t).2 h)]; rfl
    · rw [if_neg h, if_neg fun e => h ((pre2 c t).1 e), index_dd t]
      cases hc : cutDD t with
      | none => rfl
      | some p =>
        obtain ⟨a, b⟩ := p
        have : ¬ ((a.length : Int) == -1) = true := by simp
        simp only [Option.map_some, this, if_false, List.length_cons]
        simp

theorem contains_dd (s : List UInt8) : Lib.contains s [32, 32] = dbl s := by
  unfold Lib.contains
  rw [index_dd]
  cases hc : cutDD s with
  | none => rw [cutDD_none.1 hc]; rfl
  | some p =>
    have : dbl s = true := by
      cases hd : dbl s with
      | true => rfl
      | false => rw [cutDD_none.2 hd] at hc; cases hc
    rw [this]
    simp

theorem dropWhile_le (s : List UInt8) (p : UInt8 → Bool) : (s.dropWhile p).length ≤ s.length := by
  induction s with
  | nil => simp
  | cons c t ih =>
    rw [List.dropWhile_cons]
    split
    · simp; omega
    · exact Nat.le_refl _

theorem cellsF_more : ∀ (n : Nat) (s : List UInt8), s.length ≤ n → cellsF n s = cellsL s := by
  have key : ∀ (k n m : Nat) (s : List UInt8), s.length ≤ k → s.length ≤ n → s.length ≤ m → cellsF n s = cellsF m s := by
    intro k
    induction k with
    | zero =>
      intro n m s h _ _
      have : s = [] := List.length_eq_zero_iff.1 (by omega)
      subst this
      cases n <;> cases m <;> rfl
    | succ k ih =>
      intro n m s hk hn hm
      cases hs : s with
      | nil => cases n <;> cases m <;> rfl
      | cons c t =>
        rw [← hs]
        obtain ⟨n', rfl⟩ : ∃ n', n = n' + 1 := ⟨n - 1, by rw [hs] at hn; simp at hn; omega⟩
        obtain ⟨m', rfl⟩ : ∃ m', m = m' + 1 := ⟨m - 1, by rw [hs] at hm; simp at hm; omega⟩
        simp only [cellsF]
        cases hc : cutDD s with
        | none => rfl
        | some p =>
          obtain ⟨a, b⟩ := p
          obtain ⟨h1, t', h2⟩ := cutDD_some hc
          have h3 : (b.dropWhile (· == 32)).length + 2 ≤ s.length := by
            have := dropWhile_le t' (· == 32)
            rw [h1, h2]
            simp
            omega
          show a :: cellsF n' (b.dropWhile (· == 32)) = a :: cellsF m' (b.dropWhile (· == 32))
          rw [ih n' m' _ (by omega) (by omega) (by omega)]
  intro n s h
  exact key s.length n s.length s (Nat.le_refl _) h (Nat.le_refl _)

theorem cellsL_eq (s : List UInt8) : cellsL s = match cutDD s with | none => [s] | some (a, b) => a :: cellsL (b.dropWhile (· == 32)) := by
  cases hc : cutDD s with
  | none =>
    unfold cellsL
    cases s with
    | nil => rfl
    | cons c t => simp only [List.length_cons, cellsF, hc]
  | some p =>
    obtain ⟨a, b⟩ := p
    obtain ⟨h1, t', h2⟩ := cutDD_some hc
    have h3 : (b.dropWhile (· == 32)).length + 2 ≤ s.length := by
      have := dropWhile_le t' (· == 32)
      rw [h1, h2]
      simp
      omega
    show cellsF s.length s = _
    obtain ⟨n, hn⟩ : ∃ n, s.length = n + 1 := ⟨s.length - 1, by omega⟩
    rw [hn]
    simp only [cellsF, hc]
    rw [cellsF_more n _ (by omega)]

theorem cutDD_app : ∀ {s : List UInt8} (u : List UInt8), dbl s = false → s.getLast? ≠ some 32 → cutDD (s ++ 32 :: 32 :: u) = some (s, 32 :: 32 :: u)
  | [], u, _, _ => by simp [cutDD]
  | c :: t, u, hd, hl => by
    unfold dbl at hd
    simp only [Bool.or_eq_false_iff] at hd
    have hl' : t.getLast? ≠ some 32 := by
      cases t with
      | nil => simp
      | cons d t => rw [List.getLast?_cons_cons] at hl; exact hl
    have ih := cutDD_app u hd.2 hl'
    rw [List.cons_append]
    unfold cutDD
    rw [if_neg, ih]
    · rfl
    · rintro ⟨rfl, h⟩
      cases t with
      | nil => simp at hl
      | cons d t => simp at h; subst h; simp at hd

theorem dropWhile_rep (n : Nat) (t : List UInt8) (h : t.head? ≠ some 32) : (List.replicate n 32 ++ t).dropWhile (· == 32) = t := by
  induction n with
  | zero =>
    cases t with
    | nil => rfl
    | cons c t =>
      have : ¬ (c == 32) = true := by simpa using h
      simp [List.dropWhile_cons, this]
  | succ n ih => simp [List.replicate_succ, List.dropWhile_cons, ih]

theorem cells_row : ∀ {r : List (List UInt8)} {w : List Nat}, r ≠ [] → fitsW w r → (∀ s ∈ r, CellP s) → cellsL (rowTxt w r) = r ∧ (rowTxt w r).head? ≠ some 32 ∧ rowTxt w r ≠ []
  | [], _, h, _, _ => absurd rfl h
  | _ :: _, [], _, h, _ => h.elim
  | s :: t, w :: ws, _, h, hp => by
    have hs := hp s (by simp)
    have hh : ∀ u, (s ++ u).head? ≠ some 32 := fun u => by
      cases hsn : s with
      | nil => exact absurd hsn hs.ne
      | cons c s' => have := hs.first; rw [hsn] at this; simpa using this
    have hne : ∀ u, s ++ u ≠ [] := fun u e => hs.ne (List.append_eq_nil_iff.1 e).1
    refine ⟨?_, hh _, hne _⟩
    cases t with
    | nil =>
      simp only [rowTxt, List.isEmpty_nil, if_true, List.append_nil]
      rw [cellsL_eq, cutDD_none.2 hs.single]
    | cons s2 t =>
      obtain ⟨h1, h2, h3⟩ := cells_row (r := s2 :: t) (w := ws) (by simp) h.2 fun x hx => hp x (by simp [hx])
      have e : rowTxt (w :: ws) (s :: s2 :: t) = s ++ 32 :: 32 :: (List.replicate (w - s.length) 32 ++ rowTxt ws (s2 :: t)) := by
        simp [rowTxt, List.replicate_succ]
      rw [e, cellsL_eq, cutDD_app _ hs.single hs.last]
      have e2 : (32 :: 32 :: (List.replicate (w - s.length) 32 ++ rowTxt ws (s2 :: t)) : List UInt8) = List.replicate (w - s.length + 2) 32 ++ rowTxt ws (s2 :: t) := by simp [List.replicate_succ]
      simp only [e2]
      rw [dropWhile_rep _ _ h2, h1]

/-! ### Lines -/

def linesL : List UInt8 → List (List UInt8) × List UInt8
  | [] => ([], [])
  | c :: t => if c = 10 then ([] :: (linesL t).1, (linesL t).2) else match (linesL t).1 with
    | [] => ([], c :: (linesL t).2)
    | l :: ls => ((c :: l) :: ls, (linesL t).2)

theorem linesL_line : ∀ (l u : List UInt8), (10 : UInt8) ∉ l → linesL (l ++ 10 :: u) = (l :: (linesL u).1, (linesL u).2)
  | [], u, _ => by simp [linesL]
  | c :: l, u, h => by
    have hc : ¬ c = 10 := fun e => h (by simp [e])
    rw [List.cons_append, linesL, if_neg hc, linesL_line l u fun e => h (by simp [e])]
theorem linesL_rest : ∀ (l : List UInt8), (10 : UInt8) ∉ l → linesL l = ([], l)
  | [], _ => rfl
  | c :: l, h => by
    have hc : ¬ c = 10 := fun e => h (by simp [e])
    rw [linesL, if_neg hc, linesL_rest l fun e => h (by simp [e])]
theorem linesL_all {α : Type} (f : α → List UInt8) : ∀ (l : List α) (u : List UInt8), (∀ x ∈ l, (10 : UInt8) ∉ f x) → linesL ((l.flatMap fun x => f x ++ [10]) ++ u) = (l.map f ++ (linesL u).1, (linesL u).2)
  | [], u, _ => by simp
  | x :: l, u, h => by
    rw [List.flatMap_cons, List.append_assoc, List.append_assoc, List.singleton_append, linesL_line _ _ (h x (by simp)), linesL_all f l u fun y hy => h y (by simp [hy])]
    rfl

theorem rowTxt_no10 : ∀ {w : List Nat} {r : List (List UInt8)}, (∀ s ∈ r, CellP s) → (10 : UInt8) ∉ rowTxt w r
  | _, [], _ => by simp [rowTxt]
  | [], _ :: _, _ => by simp [rowTxt]
  | w :: ws, s :: t, h => by
    have h1 : (10 : UInt8) ∉ s := fun e => by have := ((h s (by simp)).plain 10 e).1; simp at this
    unfold rowTxt
    rw [List.mem_append, not_or]
    refine ⟨h1, ?_⟩
    split
    · simp
    · rw [List.mem_append, not_or]
      exact ⟨by simp [List.mem_replicate], rowTxt_no10 fun x hx => h x (by simp [hx])⟩

/-- The rows that a text says. -/
def rowsE (s : List UInt8) : Int := if s.length ≤ 1048576 then (if (linesL s).2 = [] ∧ tableE ((linesL s).1.map cellsL) = 0 ∧ tableT ((linesL s).1.map cellsL) = s then 0 else 4) else 6
def rowsS (s : List UInt8) : List (List (List UInt8)) := if rowsE s = 0 then (linesL s).1.map cellsL else []

/-- A table's rows are read back. -/
theorem rows_table {rows : List (List (List UInt8))} (h : tableE rows = 0) : rowsE (tableT rows) = 0 ∧ rowsS (tableT rows) = rows := by
  have hb : tabB rows = true := by
    unfold tableE at h
    by_cases hh : tabB rows = true
    · exact hh
    · rw [if_neg hh] at h; cases h
  have hl : (tableT rows).length ≤ 1048576 := by
    unfold tableE at h
    rw [if_pos hb] at h
    by_cases hh : (tableT rows).length ≤ 1048576
    · exact hh
    · rw [if_neg hh] at h; cases h
  have hg := tabB_len hb
  have hf := wid_fits fun r hr => (hg r hr).2.1
  have h1 : linesL (tableT rows) = (rows.map (rowTxt (wid (rows.headD []).length rows)), []) := by
    have := linesL_all (rowTxt (wid (rows.headD []).length rows)) rows [] fun r hr => rowTxt_no10 (hg r hr).2.2
    rw [List.append_nil] at this
    unfold tableT tabTxt
    rw [this]
    simp [linesL]
  have h2 : (linesL (tableT rows)).1.map cellsL = rows := by
    rw [h1]
    simp only [List.map_map]
    refine (List.map_congr_left fun r hr => ?_).trans (List.map_id _)
    exact (cells_row (hg r hr).1 (hf r hr) (hg r hr).2.2).1
  have h3 : rowsE (tableT rows) = 0 := by
    unfold rowsE
    rw [if_pos hl, h2, if_pos ⟨by rw [h1], h, rfl⟩]
  exact ⟨h3, by unfold rowsS; rw [if_pos h3, h2]⟩

end Go.Am
