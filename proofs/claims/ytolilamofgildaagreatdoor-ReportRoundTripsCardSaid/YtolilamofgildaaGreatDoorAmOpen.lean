/-
What a law of this seat begins with: the program's variables, its arguments, the machine's first state. Conditions: the row's list of what the variables hold.
-/
import Derived.Test.YtolilamofgildaaGreatDoorAmX1
import Derived.Test.YtolilamofgildaaGreatDoorAm42
import Derived.Test.YtolilamofgildaaGreatDoorRows
import Derived.Deep.DeepHandedRow
import Derived.Deep.DeepWitnessRowRef
import Derived.LaidMore
import Derived.Lib.LaidU8
import Derived.Test.YtolilamofgildaaGreatDoorAm41
set_option linter.unusedSimpArgs false
set_option linter.unusedVariables false
set_option maxRecDepth 100000
namespace Go.Proofs.YtolilamofgildaaGreatDoor
open Go.ChangeShapes Go.WideShapes Go.ChangeAt Go.RowKit Go.Am

theorem Tryz.own : ownKnob Tryz.prog.godebug = none := by kernel_rfl
theorem Tryz.laidOut : laidOutB Tryz.prog = true := by kernel_rfl
theorem Tryz.gPow : Tryz.prog.globalNamed "internal/strconv.uint64pow10" = some 1 := by kernel_rfl
theorem Tryz.gPowT : (Tryz.prog.globals[1]?).map (·.type) = some 125 := by kernel_rfl

theorem Tryz.gErr : Tryz.prog.globalNamed "strconv.ErrRange" = some 7 := by kernel_rfl
theorem Tryz.gErrT : (Tryz.prog.globals[7]?).map (·.type) = some 53 := by kernel_rfl

/-- The library's error is one. -/
def Tryz.errIs (w : World) : Prop := ∃ ev, w.cell? ⟨7, 0, none⟩ = some ev ∧ (ev = .nilIface ∨ ∃ te pe, ev = .iface te pe)

/-- The machine's base: the blocks below n are not the run's own. -/
def Tryz.base (n : Nat) (hn : 7 < n) : Base where
  n := n
  G := 8
  T := []
  K := fun w => (Lib.TabIs Tryz.prog w "internal/strconv.uint64pow10" .u64 Lib.pow10Tab ∧ ∃ m, w.cell? ⟨0, 0, none⟩ = some (.int .i64 m)) ∧ Tryz.errIs w
  keep := fun w w' hk _ ⟨⟨h, m, hm⟩, ev, he, hev⟩ => by
    refine ⟨⟨?_, m, ?_⟩, ev, ?_, hev⟩
    · unfold Lib.TabIs at h ⊢
      unfold World.var? at h ⊢
      rw [Tryz.gPow] at h ⊢
      simp only [Option.bind_some] at h ⊢
      rw [hk 1 (by omega)]
      exact h
    · rw [World.cell?_of_block (w := w) (a := ⟨0, 0, none⟩) (hk 0 (by omega))]
      exact hm
    · rw [World.cell?_of_block (w := w) (a := ⟨7, 0, none⟩) (hk 7 hn)]
      exact he

theorem Tryz.call_ok (n : Nat) (hn : 7 < n) : CallOk Tryz.prog (Tryz.base n hn) Tryz.call :=
  ecall_ok (B := Tryz.base n hn) (Tryz.extOk (fun _ h => h.1.1) (fun _ h => h.1.2) fun _ h => h.2) Tryz.tabOk (by kernel_rfl) (by kernel_rfl)

theorem Tryz.globs {φ : Emb} (h : ∀ g, g < 8 → φ g = some (g, 0, none)) : GlobR Tryz.prog φ := fun g hg => by
  have h4 : Tryz.prog.globals.size = 8 := by kernel_rfl
  exact h g (by omega)

theorem Tryz.laid_tab {W : World} (hL : laidMetH Tryz.prog Rows.reportRoundTripsRow.laid W) : Lib.TabIs Tryz.prog W "internal/strconv.uint64pow10" .u64 Lib.pow10Tab ∧ Tryz.errIs W := by
  have hL' : laidMet Tryz.prog Rows.reportRoundTripsRow.laid W := hL
  have hr := Go.Lib.laidMet.reads hL' (n := "strconv.ErrRange") (d := Rows.laid_strconv_ErrRange) (List.mem_cons_of_mem _ (List.mem_cons_of_mem _ (List.mem_cons_of_mem _ (List.mem_cons_of_mem _ (List.mem_cons_self ..)))))
  obtain ⟨ps, h, _⟩ := hL'
  exact ⟨tabIs_of_mem (n := 20) Tryz.gPow Tryz.gPowT Tryz.underlying125 Tryz.underlying105 (by kernel_rfl) (by kernel_rfl) h (List.mem_cons_of_mem _ (List.mem_cons_of_mem _ (List.mem_cons_self ..))),
    iface_cell Tryz.gErr Tryz.gErrT ⟨_, Tryz.underlying53⟩ hr⟩

theorem Tryz.tab_pos {W : World} (h : Lib.TabIs Tryz.prog W "internal/strconv.uint64pow10" .u64 Lib.pow10Tab ∧ Tryz.errIs W) : 7 < W.heap.size := by
  obtain ⟨_, ev, he, _⟩ := h
  by_cases h0 : 7 < W.heap.size
  · exact h0
  · unfold World.cell? at he
    rw [Array.getElem?_eq_none (by show W.heap.size ≤ 7; omega)] at he
    cases he

theorem Tryz.know {W : World} (hT : Lib.TabIs Tryz.prog W "internal/strconv.uint64pow10" .u64 Lib.pow10Tab ∧ Tryz.errIs W) (hS : W.ShapedOpen Tryz.prog) : (Tryz.base W.heap.size (Tryz.tab_pos hT)).K W :=
  ⟨⟨hT.1, Go.Proofs.cell_of_shapedOpen_int (zero := #[.int .i64 0]) (t := 3) hS (of_decide_eq_true (by kernel_rfl)) (by kernel_rfl) rfl (by kernel_rfl) (by kernel_rfl) Tryz.underlying3⟩, hT.2⟩

/-- An argument of one cell. -/
theorem Tryz.cell_arg {H : Type} {enc : TypeId × Value → H} {W : World} {base : Nat} {v : Value} {d : DataW H} {p : List MemPlace} {t : TypeId} (hl : layB Tryz.prog 6 t = true) (hc : v.cells.toList = [v]) (hv : Value.okWide Tryz.prog W .any base t v) (h : DataW.Trod enc Tryz.prog W 0 (fun _ => true) true t v d p) :
    ∃ ds, TyD Tryz.prog 6 t ds ∧ ArgD W ds [v] := by
  obtain ⟨ds, h1, h2⟩ := any_arg hl hv h
  rw [hc] at h2
  exact ⟨ds, h1, h2⟩
theorem Tryz.slice_cells {W : World} {base : Nat} {v : Value} {t e : TypeId} (hu : Tryz.prog.underlying t = some (.slice e)) (hv : Value.okWide Tryz.prog W .any base t v) : v.cells.toList = [v] := by
  obtain ⟨a, len, cap, rfl⟩ := okWide_slice hu hv
  rfl

/-- Rows of strings. -/
theorem Tryz.rows_of {lo : Nat} {H : AH} {av : List AV} {ds : List DV} (h : TyD Tryz.prog 6 22 ds) (hd : DVs lo H av ds) : ∃ v rows, av = [v] ∧ TabV lo H v rows := by
  have c1 : Tryz.prog.cellsOf 38 = 1 := by kernel_rfl
  have c2 : Tryz.prog.cellsOf 9 = 1 := by kernel_rfl
  have row : ∀ d a, TyD Tryz.prog 5 38 d → DVs lo H a d → ∃ u r, a = [u] ∧ StrsV lo H u r := fun d a h1 h2 => by
    obtain ⟨v, xs, e1, e2, e3⟩ := h1.rows (f := fun s => [AV.str s]) Tryz.underlying38 h2 fun q a k1 k2 => by
      obtain ⟨s, rfl, _⟩ := k1.str_inv Tryz.underlying9
      cases k2 with
      | str s h => rw [h.nil_inv]; exact ⟨s, rfl⟩
    rw [c2] at e2
    have e4 : rowsOf (fun s => [AV.str s]) xs = xs.map AV.str := by
      clear e1 e2
      induction xs with
      | nil => rfl
      | cons x xs ih => simp only [rowsOf, List.flatMap_cons, List.map_cons] at ih ⊢; rw [ih]; rfl
    rw [e4] at e2
    exact ⟨v, xs, e1, e2, e3⟩
  rcases h.slice_inv Tryz.underlying22 with rfl | rfl | ⟨n, cells, rfl, _, _, he⟩
  · cases hd with
    | nils h => rw [h.nil_inv]; exact ⟨.nils, [], rfl, fun _ _ _ _ _ e => (by cases e), [], rfl, .nil, fun i u r hu => by simp at hu⟩
  · cases hd with
    | esl h => rw [h.nil_inv]; exact ⟨.esl, [], rfl, fun _ _ _ _ _ e => (by cases e), [], rfl, .emp, fun i u r hu => by simp at hu⟩
  · rw [c1] at hd
    cases hd with
    | sl h1 h2 h3 h4 h5 =>
      rw [h5.nil_inv]
      obtain ⟨rows, k1, k2, k3⟩ := es_one row n he h4
      subst k1
      exact ⟨_, rows, rfl, fun _ _ _ _ _ e => (by cases e; exact h1), _, k2, SliceV.sl h2 h3, k3⟩

/-! ### A witness -/

def cellsOfData : DataW Unit → Array Value
  | .agg ps => (ps.map fun | .lit (.int k n) => Value.int k n | _ => Go.undef).toArray
  | _ => #[]
def setCells (h : Array Obj) (g : Nat) (cs : Array Value) : Array Obj := h.modify g fun
  | .cells _ t frozen => .cells cs t frozen
  | o => o
noncomputable def Tryz.laidWorld (os : Os) : World :=
  { World.doorLaid Tryz.prog 4000 os with heap := setCells (World.doorLaid Tryz.prog 4000 os).heap 2 (cellsOfData Rows.laid_unicode_utf8_first) }

end Go.Proofs.YtolilamofgildaaGreatDoor
