/-
What a law of this seat begins with: the program's variables, its arguments, the machine's first state. Conditions: the row's list of what the variables hold.
-/
import Derived.Test.YthknkijoiloinaaDoorAmN
import Derived.Test.YthknkijoiloinaaDoorAm35
import Derived.Test.YthknkijoiloinaaDoorRows
import Derived.Deep.DeepHandedRow
import Derived.Deep.DeepWitnessRowRef
import Derived.LaidMore
set_option linter.unusedSimpArgs false
set_option linter.unusedVariables false
set_option maxRecDepth 100000
namespace Go.Proofs.YthknkijoiloinaaDoor
open Go.ChangeShapes Go.WideShapes Go.ChangeAt Go.RowKit Go.Am

theorem Tryd.own : ownKnob Tryd.prog.godebug = none := by kernel_rfl
theorem Tryd.laidOut : laidOutB Tryd.prog = true := by kernel_rfl
theorem Tryd.gPow : Tryd.prog.globalNamed "internal/strconv.uint64pow10" = some 1 := by kernel_rfl
theorem Tryd.gPowT : (Tryd.prog.globals[1]?).map (·.type) = some 84 := by kernel_rfl

/-- The machine's base: the blocks below n are not the run's own. -/
def Tryd.base (n : Nat) (hn : 1 < n) : Base where
  n := n
  G := 6
  T := []
  K := fun w => Lib.TabIs Tryd.prog w "internal/strconv.uint64pow10" .u64 Lib.pow10Tab ∧ ∃ m, w.cell? ⟨0, 0, none⟩ = some (.int .i64 m)
  keep := fun w w' hk _ ⟨h, m, hm⟩ => by
    refine ⟨?_, m, ?_⟩
    · unfold Lib.TabIs at h ⊢
      unfold World.var? at h ⊢
      rw [Tryd.gPow] at h ⊢
      simp only [Option.bind_some] at h ⊢
      rw [hk 1 hn]
      exact h
    · rw [World.cell?_of_block (w := w) (a := ⟨0, 0, none⟩) (hk 0 (by omega))]
      exact hm

theorem Tryd.call_ok (n : Nat) (hn : 1 < n) : CallOk Tryd.prog (Tryd.base n hn) Tryd.call :=
  ecall_ok (B := Tryd.base n hn) (Tryd.extOk (fun _ h => h.1) fun _ h => h.2) Tryd.tabOk (by kernel_rfl) (by kernel_rfl)

theorem Tryd.globs {φ : Emb} (h : ∀ g, g < 6 → φ g = some (g, 0, none)) : GlobR Tryd.prog φ := fun g hg => by
  have h4 : Tryd.prog.globals.size = 6 := by kernel_rfl
  exact h g (by omega)

theorem Tryd.laid_tab {W : World} (hL : laidMetH Tryd.prog Rows.benchFindsRow.laid W) : Lib.TabIs Tryd.prog W "internal/strconv.uint64pow10" .u64 Lib.pow10Tab := by
  have hL' : laidMet Tryd.prog Rows.benchFindsRow.laid W := hL
  obtain ⟨ps, h, _⟩ := hL'
  exact tabIs_of_mem (n := 20) Tryd.gPow Tryd.gPowT Tryd.underlying84 Tryd.underlying75 (by kernel_rfl) (by kernel_rfl) h (List.mem_cons_of_mem _ (List.mem_cons_of_mem _ (List.mem_cons_self ..)))

theorem Tryd.tab_pos {W : World} (h : Lib.TabIs Tryd.prog W "internal/strconv.uint64pow10" .u64 Lib.pow10Tab) : 1 < W.heap.size := by
  unfold Lib.TabIs World.var? at h
  rw [Tryd.gPow] at h
  simp only [Option.bind_some] at h
  by_cases h0 : 1 < W.heap.size
  · exact h0
  · rw [Array.getElem?_eq_none (by omega)] at h
    cases h

theorem Tryd.know {W : World} (hL : laidMetH Tryd.prog Rows.benchFindsRow.laid W) (hS : W.ShapedOpen Tryd.prog) : (Tryd.base W.heap.size (Tryd.tab_pos (Tryd.laid_tab hL))).K W :=
  ⟨Tryd.laid_tab hL, Go.Proofs.cell_of_shapedOpen_int (zero := #[.int .i64 0]) (t := 3) hS (of_decide_eq_true (by kernel_rfl)) (by kernel_rfl) rfl (by kernel_rfl) (by kernel_rfl) Tryd.underlying3⟩

def Tryd.secKinds : List FK := [.str, .str, .str]

theorem Tryd.sec_shape (us : List AV) (h : Shape Tryd.secKinds us) : ∃ x : Sec, us = x.cells := by
  obtain ⟨a0, a1, a2, rfl⟩ : ∃ a0 a1 a2, us = [a0, a1, a2] := by
    have hl := h.length
    match us, hl with
    | [a0, a1, a2], _ => exact ⟨a0, a1, a2, rfl⟩
  cases a0 <;> first | exact h.elim | skip
  cases a1 <;> first | exact h.2.elim | skip
  cases a2 <;> first | exact h.2.2.elim | skip
  exact ⟨⟨_, _, _⟩, rfl⟩

/-- A project as an argument. -/
theorem Tryd.proj_arg {H : Type} {enc : TypeId × Value → H} {W : World} {base : Nat} {v : Value} {d : DataW H} {p : List MemPlace} (hv : Value.okWide Tryd.prog W .any base 24 v) (h : DataW.Trod enc Tryd.prog W 0 (fun _ => true) true 24 v d p) :
    ∃ l u, v = .agg #[u] ∧ ArgS W Sec.cells 3 u l := by
  obtain ⟨cs, rfl, hsz⟩ := okWide_struct Tryd.underlying24 hv
  have hc1 : Tryd.prog.cellsOf 24 = 1 := by kernel_rfl
  have hc2 : Tryd.prog.cellsOf 22 = 1 := by kernel_rfl
  obtain ⟨u, rfl⟩ : ∃ u, cs = #[u] := by
    rw [hc1] at hsz
    obtain ⟨l⟩ := cs
    match l, hsz with
    | [u], _ => exact ⟨u, rfl⟩
  obtain ⟨fuel, hf⟩ := h
  obtain ⟨y0, n, _, _, hf0⟩ := trod_struct1 Tryd.underlying24 hf
  simp only [Value.cells, hc2, List.drop_zero, List.take_succ_cons, List.take_zero] at hf0
  have hok : ∃ a len cap, u = .slice a len cap := by
    rcases DataW.trod_slice Tryd.underlying22 hf0 with ⟨hcs, _⟩ | ⟨a', len', cap', elems, rest, n, _, hcs, _⟩
    · simp at hcs; exact ⟨_, _, _, hcs⟩
    · simp at hcs; exact ⟨_, _, _, hcs⟩
  obtain ⟨a, len, cap, rfl⟩ := hok
  obtain ⟨l, hl⟩ := slice_arg (m := 3) (ks := Tryd.secKinds) Tryd.underlying22 Tryd.underlying38 (by kernel_rfl) (by kernel_rfl) rfl (by omega) Sec.cells_len Tryd.sec_shape ⟨[], [], []⟩ hf0
  exact ⟨l, _, rfl, hl⟩

/-! ### A witness -/

def Tryd.projZero : Value := .agg #[.slice none 0 0]
def Tryd.projData {H : Type} : DataW H := .agg [.nil]
def cellsOfData : DataW Unit → Array Value
  | .agg ps => (ps.map fun | .lit (.int k n) => Value.int k n | _ => Go.undef).toArray
  | _ => #[]
def setCells (h : Array Obj) (g : Nat) (cs : Array Value) : Array Obj := h.modify g fun
  | .cells _ t frozen => .cells cs t frozen
  | o => o
noncomputable def Tryd.laidWorld (os : Os) : World :=
  { World.doorLaid Tryd.prog 4000 os with heap := setCells (World.doorLaid Tryd.prog 4000 os).heap 4 (cellsOfData Rows.laid_unicode_utf8_first) }

end Go.Proofs.YthknkijoiloinaaDoor
