/-
What a law of this seat begins with: the program's variables, its arguments, the machine's first state. Conditions: the row's list of what the variables hold.
-/
import Derived.Test.YtodonjfcaimgiaaDoorAmLa
import Derived.Test.YtodonjfcaimgiaaDoorAm35
import Derived.Test.YtodonjfcaimgiaaDoorRows
import Derived.Deep.DeepHandedRow
import Derived.Deep.DeepWitnessRowRef
import Derived.LaidMore
import Derived.Lib.LaidU8
set_option linter.unusedSimpArgs false
set_option linter.unusedVariables false
set_option maxRecDepth 100000
namespace Go.Proofs.YtodonjfcaimgiaaDoor
open Go.ChangeShapes Go.WideShapes Go.ChangeAt Go.RowKit Go.Am

theorem Tryd.own : ownKnob Tryd.prog.godebug = none := by kernel_rfl
theorem Tryd.laidOut : laidOutB Tryd.prog = true := by kernel_rfl
theorem Tryd.gPow : Tryd.prog.globalNamed "internal/strconv.uint64pow10" = some 1 := by kernel_rfl
theorem Tryd.gPowT : (Tryd.prog.globals[1]?).map (·.type) = some 114 := by kernel_rfl

theorem Tryd.gErr : Tryd.prog.globalNamed "strconv.ErrRange" = some 3 := by kernel_rfl
theorem Tryd.gErrT : (Tryd.prog.globals[3]?).map (·.type) = some 73 := by kernel_rfl

/-- The library's error is one. -/
def Tryd.errIs (w : World) : Prop := ∃ ev, w.cell? ⟨3, 0, none⟩ = some ev ∧ (ev = .nilIface ∨ ∃ te pe, ev = .iface te pe)

/-- The machine's base: the blocks below n are not the run's own. -/
def Tryd.base (n : Nat) (hn : 3 < n) : Base where
  n := n
  G := 8
  T := []
  K := fun w => (Lib.TabIs Tryd.prog w "internal/strconv.uint64pow10" .u64 Lib.pow10Tab ∧ ∃ m, w.cell? ⟨0, 0, none⟩ = some (.int .i64 m)) ∧ Tryd.errIs w
  keep := fun w w' hk _ ⟨⟨h, m, hm⟩, ev, he, hev⟩ => by
    refine ⟨⟨?_, m, ?_⟩, ev, ?_, hev⟩
    · unfold Lib.TabIs at h ⊢
      unfold World.var? at h ⊢
      rw [Tryd.gPow] at h ⊢
      simp only [Option.bind_some] at h ⊢
      rw [hk 1 (by omega)]
      exact h
    · rw [World.cell?_of_block (w := w) (a := ⟨0, 0, none⟩) (hk 0 (by omega))]
      exact hm
    · rw [World.cell?_of_block (w := w) (a := ⟨3, 0, none⟩) (hk 3 hn)]
      exact he

theorem Tryd.call_ok (n : Nat) (hn : 3 < n) : CallOk Tryd.prog (Tryd.base n hn) Tryd.call :=
  ecall_ok (B := Tryd.base n hn) (Tryd.extOk (fun _ h => h.1.1) (fun _ h => h.1.2) fun _ h => h.2) Tryd.tabOk (by kernel_rfl) (by kernel_rfl)

theorem Tryd.globs {φ : Emb} (h : ∀ g, g < 8 → φ g = some (g, 0, none)) : GlobR Tryd.prog φ := fun g hg => by
  have h4 : Tryd.prog.globals.size = 8 := by kernel_rfl
  exact h g (by omega)

theorem Tryd.laid_tab {W : World} (hL : laidMetH Tryd.prog Rows.eventValidRow.laid W) : Lib.TabIs Tryd.prog W "internal/strconv.uint64pow10" .u64 Lib.pow10Tab ∧ Tryd.errIs W := by
  have hL' : laidMet Tryd.prog Rows.eventValidRow.laid W := hL
  have hr := Go.Lib.laidMet.reads hL' (n := "strconv.ErrRange") (d := Rows.laid_strconv_ErrRange) (List.mem_cons_of_mem _ (List.mem_cons_of_mem _ (List.mem_cons_of_mem _ (List.mem_cons_of_mem _ (List.mem_cons_self ..)))))
  obtain ⟨ps, h, _⟩ := hL'
  exact ⟨tabIs_of_mem (n := 20) Tryd.gPow Tryd.gPowT Tryd.underlying114 Tryd.underlying93 (by kernel_rfl) (by kernel_rfl) h (List.mem_cons_of_mem _ (List.mem_cons_of_mem _ (List.mem_cons_self ..))),
    iface_cell Tryd.gErr Tryd.gErrT ⟨_, Tryd.underlying73⟩ hr⟩

theorem Tryd.tab_pos {W : World} (h : Lib.TabIs Tryd.prog W "internal/strconv.uint64pow10" .u64 Lib.pow10Tab ∧ Tryd.errIs W) : 3 < W.heap.size := by
  obtain ⟨_, ev, he, _⟩ := h
  by_cases h0 : 3 < W.heap.size
  · exact h0
  · unfold World.cell? at he
    rw [Array.getElem?_eq_none (by show W.heap.size ≤ 3; omega)] at he
    cases he

theorem Tryd.know {W : World} (hL : laidMetH Tryd.prog Rows.eventValidRow.laid W) (hS : W.ShapedOpen Tryd.prog) : (Tryd.base W.heap.size (Tryd.tab_pos (Tryd.laid_tab hL))).K W := ⟨⟨(Tryd.laid_tab hL).1, Tryd.laysM147.s1_3 W hS⟩, (Tryd.laid_tab hL).2⟩

def Tryd.evKinds : List FK := [.int .i64, .int .i64, .int .i64, .int .i64, .int .i64, .str, .int .i64]

theorem Tryd.ev_shape {us : List AV} (h : Shape Tryd.evKinds us) : ∃ x : Ev, us = x.cells := by
  obtain ⟨a0, a1, a2, a3, a4, a5, a6, rfl⟩ : ∃ a0 a1 a2 a3 a4 a5 a6, us = [a0, a1, a2, a3, a4, a5, a6] := by
    have hl := h.length
    match us, hl with
    | [a0, a1, a2, a3, a4, a5, a6], _ => exact ⟨a0, a1, a2, a3, a4, a5, a6, rfl⟩
  cases a0 <;> first | exact h.elim | skip
  cases a1 <;> first | exact h.2.2.elim | skip
  cases a2 <;> first | exact h.2.2.2.2.elim | skip
  cases a3 <;> first | exact h.2.2.2.2.2.2.elim | skip
  cases a4 <;> first | exact h.2.2.2.2.2.2.2.2.elim | skip
  cases a5 <;> first | exact h.2.2.2.2.2.2.2.2.2.2.elim | skip
  cases a6 <;> first | exact h.2.2.2.2.2.2.2.2.2.2.2.elim | skip
  obtain ⟨rfl, _, rfl, _, rfl, _, rfl, _, rfl, _, _, rfl, _, _⟩ := h
  exact ⟨⟨_, _, _, _, _, _, _⟩, rfl⟩

theorem Tryd.ev_arg {H : Type} {enc : TypeId × Value → H} {W : World} {base : Nat} {v : Value} {d : DataW H} {p : List MemPlace} (hv : Value.okWide Tryd.prog W .any base 23 v) (h : DataW.Trod enc Tryd.prog W 0 (fun _ => true) true 23 v d p) :
    ∃ x : Ev, ∀ φ, VR φ x.av v := by
  obtain ⟨us, h1, h2⟩ := open_arg (ks := Tryd.evKinds) Tryd.underlying23 (by kernel_rfl) (by kernel_rfl) hv h
  obtain ⟨x, rfl⟩ := Tryd.ev_shape h1
  exact ⟨x, h2⟩

/-! ### A witness -/

def Tryd.evZero : Value := .agg #[.int .i64 0, .int .i64 0, .int .i64 0, .int .i64 0, .int .i64 0, .string ⟨#[]⟩, .int .i64 0]
def Tryd.evData {H : Type} : DataW H := .agg [.lit (.int .i64 0), .lit (.int .i64 0), .lit (.int .i64 0), .lit (.int .i64 0), .lit (.int .i64 0), .lit (.string []), .lit (.int .i64 0)]
def cellsOfData : DataW Unit → Array Value
  | .agg ps => (ps.map fun | .lit (.int k n) => Value.int k n | _ => Go.undef).toArray
  | _ => #[]
def setCells (h : Array Obj) (g : Nat) (cs : Array Value) : Array Obj := h.modify g fun
  | .cells _ t frozen => .cells cs t frozen
  | o => o
noncomputable def Tryd.laidWorld (os : Os) : World :=
  { World.doorLaid Tryd.prog 4000 os with heap := setCells (World.doorLaid Tryd.prog 4000 os).heap 4 (cellsOfData Rows.laid_unicode_utf8_first) }

end Go.Proofs.YtodonjfcaimgiaaDoor
