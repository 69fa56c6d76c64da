/-
What a law of this seat begins with: the program's variables, its arguments, the machine's first state. Conditions: the row's list of what the variables hold.
-/
import Derived.Test.YtolilamofgildaaDoorAmB
import Derived.Test.YtolilamofgildaaDoorAm42
import Derived.Test.YtolilamofgildaaDoorRows
import Derived.Deep.DeepHandedRow
import Derived.Deep.DeepWitnessRowRef
import Derived.LaidMore
set_option linter.unusedSimpArgs false
set_option linter.unusedVariables false
set_option maxRecDepth 100000
namespace Go.Proofs.YtolilamofgildaaDoor
open Go.ChangeShapes Go.WideShapes Go.ChangeAt Go.RowKit Go.Am

theorem Tryd.own : ownKnob Tryd.prog.godebug = none := by kernel_rfl
theorem Tryd.laidOut : laidOutB Tryd.prog = true := by kernel_rfl
theorem Tryd.gPow : Tryd.prog.globalNamed "internal/strconv.uint64pow10" = some 1 := by kernel_rfl
theorem Tryd.gPowT : (Tryd.prog.globals[1]?).map (·.type) = some 111 := by kernel_rfl

/-- The machine's base: the blocks below n are not the run's own. -/
def Tryd.base (n : Nat) (hn : 1 < n) : Base where
  n := n
  G := 6
  T := []
  K := fun w => Lib.TabIs Tryd.prog w "internal/strconv.uint64pow10" .u64 Lib.pow10Tab ∧ ∃ m, w.cell? ⟨0, 0, none⟩ = some (.int .i64 m)
  keep := fun w w' hk _ ⟨h, m, hm⟩ => by
    refine ⟨?_, m, ?_⟩
    · unfold Lib.TabIs at h ⊢
      unfold World.var? at h ⊢
      rw [Tryd.gPow] at h ⊢
      simp only [Option.bind_some] at h ⊢
      rw [hk 1 hn]
      exact h
    · rw [World.cell?_of_block (w := w) (a := ⟨0, 0, none⟩) (hk 0 (by omega))]
      exact hm

theorem Tryd.call_ok (n : Nat) (hn : 1 < n) : CallOk Tryd.prog (Tryd.base n hn) Tryd.call :=
  ecall_ok (B := Tryd.base n hn) (Tryd.extOk (fun _ h => h.1) fun _ h => h.2) Tryd.tabOk (by kernel_rfl) (by kernel_rfl)

theorem Tryd.globs {φ : Emb} (h : ∀ g, g < 6 → φ g = some (g, 0, none)) : GlobR Tryd.prog φ := fun g hg => by
  have h4 : Tryd.prog.globals.size = 6 := by kernel_rfl
  exact h g (by omega)

theorem Tryd.laid_tab {W : World} {laid : List (String × DataW Unit)} (hm : ("internal/strconv.uint64pow10", Lib.tabData .u64 Lib.pow10Tab) ∈ laid) (hL : laidMet Tryd.prog laid W) : Lib.TabIs Tryd.prog W "internal/strconv.uint64pow10" .u64 Lib.pow10Tab := by
  obtain ⟨ps, h, _⟩ := hL
  exact tabIs_of_mem (n := 20) Tryd.gPow Tryd.gPowT Tryd.underlying111 Tryd.underlying96 (by kernel_rfl) (by kernel_rfl) h hm

theorem Tryd.tab_pos {W : World} (h : Lib.TabIs Tryd.prog W "internal/strconv.uint64pow10" .u64 Lib.pow10Tab) : 1 < W.heap.size := by
  unfold Lib.TabIs World.var? at h
  rw [Tryd.gPow] at h
  simp only [Option.bind_some] at h
  by_cases h0 : 1 < W.heap.size
  · exact h0
  · rw [Array.getElem?_eq_none (by omega)] at h
    cases h

theorem Tryd.know {W : World} (hT : Lib.TabIs Tryd.prog W "internal/strconv.uint64pow10" .u64 Lib.pow10Tab) (hS : W.ShapedOpen Tryd.prog) : (Tryd.base W.heap.size (Tryd.tab_pos hT)).K W :=
  ⟨hT, Go.Proofs.cell_of_shapedOpen_int (zero := #[.int .i64 0]) (t := 3) hS (of_decide_eq_true (by kernel_rfl)) (by kernel_rfl) rfl (by kernel_rfl) (by kernel_rfl) Tryd.underlying3⟩

/-- An argument of one cell. -/
theorem Tryd.cell_arg {H : Type} {enc : TypeId × Value → H} {W : World} {base : Nat} {v : Value} {d : DataW H} {p : List MemPlace} {t : TypeId} (hl : layB Tryd.prog 6 t = true) (hc : v.cells.toList = [v]) (hv : Value.okWide Tryd.prog W .any base t v) (h : DataW.Trod enc Tryd.prog W 0 (fun _ => true) true t v d p) :
    ∃ ds, TyD Tryd.prog 6 t ds ∧ ArgD W ds [v] := by
  obtain ⟨ds, h1, h2⟩ := any_arg hl hv h
  rw [hc] at h2
  exact ⟨ds, h1, h2⟩
theorem Tryd.slice_cells {W : World} {base : Nat} {v : Value} {t e : TypeId} (hu : Tryd.prog.underlying t = some (.slice e)) (hv : Value.okWide Tryd.prog W .any base t v) : v.cells.toList = [v] := by
  obtain ⟨a, len, cap, rfl⟩ := okWide_slice hu hv
  rfl

/-- Rows of strings. -/
theorem Tryd.rows_of {lo : Nat} {H : AH} {av : List AV} {ds : List DV} (h : TyD Tryd.prog 6 22 ds) (hd : DVs lo H av ds) : ∃ v rows, av = [v] ∧ TabV lo H v rows := by
  have c1 : Tryd.prog.cellsOf 29 = 1 := by kernel_rfl
  have c2 : Tryd.prog.cellsOf 9 = 1 := by kernel_rfl
  have row : ∀ d a, TyD Tryd.prog 5 29 d → DVs lo H a d → ∃ u r, a = [u] ∧ StrsV lo H u r := fun d a h1 h2 => by
    obtain ⟨v, xs, e1, e2, e3⟩ := h1.rows (f := fun s => [AV.str s]) Tryd.underlying29 h2 fun q a k1 k2 => by
      obtain ⟨s, rfl, _⟩ := k1.str_inv Tryd.underlying9
      cases k2 with
      | str s h => rw [h.nil_inv]; exact ⟨s, rfl⟩
    rw [c2] at e2
    have e4 : rowsOf (fun s => [AV.str s]) xs = xs.map AV.str := by
      clear e1 e2
      induction xs with
      | nil => rfl
      | cons x xs ih => simp only [rowsOf, List.flatMap_cons, List.map_cons] at ih ⊢; rw [ih]; rfl
    rw [e4] at e2
    exact ⟨v, xs, e1, e2, e3⟩
  rcases h.slice_inv Tryd.underlying22 with rfl | rfl | ⟨n, cells, rfl, _, _, he⟩
  · cases hd with
    | nils h => rw [h.nil_inv]; exact ⟨.nils, [], rfl, fun _ _ _ _ _ e => (by cases e), [], rfl, .nil, fun i u r hu => by simp at hu⟩
  · cases hd with
    | esl h => rw [h.nil_inv]; exact ⟨.esl, [], rfl, fun _ _ _ _ _ e => (by cases e), [], rfl, .emp, fun i u r hu => by simp at hu⟩
  · rw [c1] at hd
    cases hd with
    | sl h1 h2 h3 h4 h5 =>
      rw [h5.nil_inv]
      obtain ⟨rows, k1, k2, k3⟩ := es_one row n he h4
      subst k1
      exact ⟨_, rows, rfl, fun _ _ _ _ _ e => (by cases e; exact h1), _, k2, SliceV.sl h2 h3, k3⟩

/-! ### A witness -/

def cellsOfData : DataW Unit → Array Value
  | .agg ps => (ps.map fun | .lit (.int k n) => Value.int k n | _ => Go.undef).toArray
  | _ => #[]
def setCells (h : Array Obj) (g : Nat) (cs : Array Value) : Array Obj := h.modify g fun
  | .cells _ t frozen => .cells cs t frozen
  | o => o
noncomputable def Tryd.laidWorld (os : Os) : World :=
  { World.doorLaid Tryd.prog 4000 os with heap := setCells (World.doorLaid Tryd.prog 4000 os).heap 2 (cellsOfData Rows.laid_unicode_utf8_first) }

end Go.Proofs.YtolilamofgildaaDoor
