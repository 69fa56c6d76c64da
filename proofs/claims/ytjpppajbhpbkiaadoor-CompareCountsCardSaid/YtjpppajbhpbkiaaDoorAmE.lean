/-
Lists of events as slices. Conditions: those that each theorem names.
-/
import Derived.Test.YtjpppajbhpbkiaaDoorAmKj
import Derived.Test.YtjpppajbhpbkiaaDoorMc
set_option linter.unusedSimpArgs false
set_option linter.unusedVariables false
namespace Go.Am

theorem Ev.cells_len (x : Ev) : x.cells.length = 7 := rfl
theorem evs_flat (l : List Ev) : (rowsOf Ev.cells l).all flat1 = true := rowsOf_flat Ev.flat l

/-- A slice of events. -/
def EvS (H : AH) (v : AV) (l : List Ev) : Prop := SliceV H 7 v l.length (rowsOf Ev.cells l)

/-- A new list of events. -/
def NewE (H : AH) (v : AV) (l : List Ev) (H' : AH) : Prop := NewV H 7 v l.length (rowsOf Ev.cells l) H'

theorem EvS.grow {H H' : AH} {v : AV} {l : List Ev} (h : EvS H v l) (hg : Grow H H') (hn : ∀ i o z n c, v = .sl i o z n c → i < H.next) : EvS H' v l := SliceV.grow h hg hn
theorem EvS.blks {H : AH} {v : AV} {l : List Ev} (h : EvS H v l) (nx fl : Nat) : EvS ⟨H.blks, nx, fl⟩ v l := by
  rcases h.cases with ⟨rfl, h1, h2⟩ | ⟨rfl, h1, h2⟩ | ⟨i, o, c, b, rfl, hb, hl, hcs⟩
  · unfold EvS; rw [h1, h2]; exact .nil
  · unfold EvS; rw [h1, h2]; exact .emp
  · unfold EvS; rw [← hcs]; exact SliceV.sl (H := ⟨H.blks, nx, fl⟩) hb hl
theorem Names.blks {H : AH} (h : Names H) (fl : Nat) : Names ⟨H.blks, H.next, fl⟩ := h

/-- A list of events as the first argument of a call by value. -/
theorem evs_view {H : AH} {v : AV} {l : List Ev} (hv : EvS H v l) {rest us : List AV} (k : Nat) (hr : ∀ k, views H rest k = some (us, [], k)) :
    ∃ v' bs kq, views H (v :: rest) k = some (v' :: us, bs, kq) ∧ EvS ⟨bs ++ [], kq, kq⟩ v' l ∧ (∀ i o z n c, v' = .sl i o z n c → i < kq) ∧ Names ⟨bs ++ [], kq, kq⟩ := by
  rcases hv.cases with ⟨rfl, h1, h2⟩ | ⟨rfl, h1, h2⟩ | ⟨i, o, c, b, rfl, hb, hl, hcs⟩
  · exact ⟨.nils, [], k, views_flat rfl (hr k), by unfold EvS; rw [h1, h2]; exact .nil, fun _ _ _ _ _ e => (by cases e), fun x hx => (by cases hx)⟩
  · exact ⟨.esl, [], k, views_flat rfl (hr k), by unfold EvS; rw [h1, h2]; exact .emp, fun _ _ _ _ _ e => (by cases e), fun x hx => (by cases hx)⟩
  · refine ⟨.sl k 0 7 l.length c, _, k + 1, viewS hb hl hcs (evs_flat l) (hr (k + 1)), ?_, fun i o z n c e => (by cases e; exact Nat.lt_succ_self _), fun x hx => ?_⟩
    · have hlen := rowsOf_length Ev.cells_len l
      have := SliceV.sl (H := ⟨[(k, ⟨rowsOf Ev.cells l, b.ro, b.ty, false, false⟩)] ++ [], k + 1, k + 1⟩) (z := 7) (i := k) (o := 0) (n := l.length) (c := c) (b := ⟨rowsOf Ev.cells l, b.ro, b.ty, false, false⟩) (by simp [AH.get, lk]) (by show 0 + l.length * 7 ≤ (rowsOf Ev.cells l).length; omega)
      rw [List.drop_zero, List.take_of_length_le (by show (rowsOf Ev.cells l).length ≤ _; omega)] at this
      exact this
    · simp only [List.append_nil, List.mem_cons, List.not_mem_nil, or_false] at hx
      subst hx
      exact Nat.lt_succ_self _


def okL (l : List Ev) : Bool := l.all Ev.ok
theorem okL_drop {l : List Ev} {i : Nat} {x : Ev} (h : l[i]? = some x) : okL (l.drop i) = (x.ok && okL (l.drop (i + 1))) := by
  have hil : i < l.length := by
    by_cases hlt : i < l.length
    · exact hlt
    · rw [List.getElem?_eq_none (by omega)] at h; cases h
  rw [List.getElem?_eq_getElem hil, Option.some.injEq] at h
  unfold okL
  rw [List.drop_eq_getElem_cons hil, List.all_cons, h]

/-- Rows of one string. -/
def strC (s : List UInt8) : List AV := [.str s]
theorem strC_len (s : List UInt8) : (strC s).length = 1 := rfl
theorem strs_flat (l : List (List UInt8)) : (rowsOf strC l).all flat1 = true := rowsOf_flat (fun _ => rfl) l

end Go.Am
