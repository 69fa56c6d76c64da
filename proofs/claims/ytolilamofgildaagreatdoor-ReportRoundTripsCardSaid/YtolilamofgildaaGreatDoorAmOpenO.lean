/-
Outs as arguments of a law. Conditions: they can be read.
-/
import Derived.Test.YtolilamofgildaaGreatDoorAmOpen
import Derived.Test.YtolilamofgildaaGreatDoorAmX4
set_option linter.unusedSimpArgs false
set_option linter.unusedVariables false
set_option maxRecDepth 100000
namespace Go.Proofs.YtolilamofgildaaGreatDoor
open Go.ChangeShapes Go.WideShapes Go.ChangeAt Go.RowKit Go.Am


theorem Tryz.int_cell {lo : Nat} {H : AH} {d : Nat} {a : List AV} {q : List DV} {t : TypeId} (hu : Tryz.prog.underlying t = some (.int .i64)) (h : TyD Tryz.prog (d + 1) t q) (hd : DVs lo H a q) : ∃ n, a = [.int .i64 n] := by
  obtain ⟨n, rfl, _⟩ := h.int_inv hu
  cases hd with
  | int k n h => rw [h.nil_inv]; exact ⟨n, rfl⟩
theorem Tryz.str_cell {lo : Nat} {H : AH} {d : Nat} {a : List AV} {q : List DV} {t : TypeId} (hu : Tryz.prog.underlying t = some .string) (h : TyD Tryz.prog (d + 1) t q) (hd : DVs lo H a q) : ∃ s, a = [.str s] := by
  obtain ⟨s, rfl, _⟩ := h.str_inv hu
  cases hd with
  | str s h => rw [h.nil_inv]; exact ⟨s, rfl⟩

theorem Tryz.ev_of {lo : Nat} {H : AH} {a : List AV} {q : List DV} {d : Nat} (h : TyD Tryz.prog (d + 2) 40 q) (hd : DVs lo H a q) : ∃ x : Ev, a = x.cells := by
  obtain ⟨q1, r1, rfl, h1, q2, r2, rfl, h2, q3, r3, rfl, h3, q4, r4, rfl, h4, q5, r5, rfl, h5, q6, r6, rfl, h6, q7, r7, rfl, h7, rfl⟩ := h.struct_inv Tryz.underlying40
  obtain ⟨a1, b1, rfl, d1, e1⟩ := hd.split
  obtain ⟨a2, b2, rfl, d2, e2⟩ := e1.split
  obtain ⟨a3, b3, rfl, d3, e3⟩ := e2.split
  obtain ⟨a4, b4, rfl, d4, e4⟩ := e3.split
  obtain ⟨a5, b5, rfl, d5, e5⟩ := e4.split
  obtain ⟨a6, b6, rfl, d6, e6⟩ := e5.split
  obtain ⟨a7, b7, rfl, d7, e7⟩ := e6.split
  obtain ⟨n1, rfl⟩ := Tryz.int_cell (by kernel_rfl) h1 d1
  obtain ⟨n2, rfl⟩ := Tryz.int_cell (by kernel_rfl) h2 d2
  obtain ⟨n3, rfl⟩ := Tryz.int_cell (by kernel_rfl) h3 d3
  obtain ⟨n4, rfl⟩ := Tryz.int_cell (by kernel_rfl) h4 d4
  obtain ⟨n5, rfl⟩ := Tryz.int_cell (by kernel_rfl) h5 d5
  obtain ⟨s6, rfl⟩ := Tryz.str_cell (by kernel_rfl) h6 d6
  obtain ⟨n7, rfl⟩ := Tryz.int_cell (by kernel_rfl) h7 d7
  rw [e7.nil_inv]
  exact ⟨⟨n1, n2, n3, n4, n5, s6, n7⟩, rfl⟩

theorem Tryz.out_of {lo : Nat} {H : AH} {a : List AV} {q : List DV} {d : Nat} (h : TyD Tryz.prog (d + 3) 42 q) (hd : DVs lo H a q) : ∃ x : OutR, a = x.cells := by
  obtain ⟨q1, r1, rfl, h1, q2, r2, rfl, h2, q3, r3, rfl, h3, rfl⟩ := h.struct_inv Tryz.underlying42
  obtain ⟨a1, b1, rfl, d1, e1⟩ := hd.split
  obtain ⟨a2, b2, rfl, d2, e2⟩ := e1.split
  obtain ⟨a3, b3, rfl, d3, e3⟩ := e2.split
  obtain ⟨n1, rfl⟩ := Tryz.int_cell (by kernel_rfl) h1 d1
  obtain ⟨n2, rfl⟩ := Tryz.int_cell (by kernel_rfl) h2 d2
  obtain ⟨x, rfl⟩ := Tryz.ev_of h3 d3
  rw [e3.nil_inv]
  exact ⟨⟨n1, n2, x⟩, by simp [OutR.cells]⟩

/-- A list of outs. -/
theorem Tryz.outs_of {lo : Nat} {H : AH} {av : List AV} {ds : List DV} (h : TyD Tryz.prog 6 23 ds) (hd : DVs lo H av ds) : ∃ v l, av = [v] ∧ SliceV H 9 v l.length (rowsOf OutR.cells l) ∧ ∀ i o z m c, v = .sl i o z m c → i < lo := by
  have c9 : Tryz.prog.cellsOf 42 = 9 := by kernel_rfl
  obtain ⟨v, l, e1, e2, e3⟩ := h.rows (f := OutR.cells) Tryz.underlying23 hd fun q a k1 k2 => Tryz.out_of (d := 2) k1 k2
  rw [c9] at e2
  exact ⟨v, l, e1, e2, e3⟩

end Go.Proofs.YtolilamofgildaaGreatDoor
