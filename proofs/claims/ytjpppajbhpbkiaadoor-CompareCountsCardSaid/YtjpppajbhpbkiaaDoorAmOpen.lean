/-
What a law of this seat begins with: the program's variables, its arguments, the machine's first state. Conditions: the row's list of what the variables hold.
-/
import Derived.Test.YtjpppajbhpbkiaaDoorAmKk
import Derived.Test.YtjpppajbhpbkiaaDoorAm35
import Derived.Test.YtjpppajbhpbkiaaDoorRows
import Derived.Deep.DeepHandedRow
set_option linter.unusedSimpArgs false
set_option linter.unusedVariables false
namespace Go.Proofs.YtjpppajbhpbkiaaDoor
open Go.ChangeShapes Go.WideShapes Go.ChangeAt Go.RowKit Go.Am

theorem Tryd.own : ownKnob Tryd.prog.godebug = none := by kernel_rfl
theorem Tryd.laidOut : laidOutB Tryd.prog = true := by kernel_rfl
theorem Tryd.gPow : Tryd.prog.globalNamed "internal/strconv.uint64pow10" = some 0 := by kernel_rfl
theorem Tryd.gPowT : (Tryd.prog.globals[0]?).map (·.type) = some 95 := by kernel_rfl

/-- The machine's base: the blocks below n are not the run's own. -/
def Tryd.base (n : Nat) (hn : 0 < n) : Base where
  n := n
  G := 4
  T := []
  K := fun w => Lib.TabIs Tryd.prog w "internal/strconv.uint64pow10" .u64 Lib.pow10Tab
  keep := fun w w' hk _ h => by
    unfold Lib.TabIs at h ⊢
    unfold World.var? at h ⊢
    rw [Tryd.gPow] at h ⊢
    simp only [Option.bind_some] at h ⊢
    rw [hk 0 hn]
    exact h

theorem Tryd.call_ok (n : Nat) (hn : 0 < n) : CallOk Tryd.prog (Tryd.base n hn) Tryd.call :=
  ecall_ok (B := Tryd.base n hn) (Tryd.extOk fun _ h => h) Tryd.tabOk (by kernel_rfl) (by kernel_rfl)

theorem Tryd.globs {φ : Emb} (h : ∀ g, g < 4 → φ g = some (g, 0, none)) : GlobR Tryd.prog φ := fun g hg => by
  have h4 : Tryd.prog.globals.size = 4 := by kernel_rfl
  exact h g (by omega)

theorem Tryd.laid_tab {W : World} (hL : laidMetH Tryd.prog Rows.compareKeysRow.laid W) : Lib.TabIs Tryd.prog W "internal/strconv.uint64pow10" .u64 Lib.pow10Tab := by
  have hL' : laidMet Tryd.prog Rows.compareKeysRow.laid W := hL
  obtain ⟨ps, h, _⟩ := hL'
  exact tabIs_of_mem (n := 20) Tryd.gPow Tryd.gPowT Tryd.underlying95 Tryd.underlying85 (by kernel_rfl) (by kernel_rfl) h (List.mem_cons_of_mem _ (List.mem_cons_of_mem _ (List.mem_cons_self ..)))

theorem Tryd.tab_pos {W : World} (h : Lib.TabIs Tryd.prog W "internal/strconv.uint64pow10" .u64 Lib.pow10Tab) : 0 < W.heap.size := by
  unfold Lib.TabIs World.var? at h
  rw [Tryd.gPow] at h
  simp only [Option.bind_some] at h
  by_cases h0 : 0 < W.heap.size
  · exact h0
  · rw [Array.getElem?_eq_none (by omega)] at h
    cases h

def Tryd.evKinds : List FK := [.int .i64, .int .i64, .int .i64, .int .i64, .int .i64, .str, .int .i64]

theorem Tryd.ev_shape {us : List AV} (h : Shape Tryd.evKinds us) : ∃ x : Ev, us = x.cells := by
  obtain ⟨a0, a1, a2, a3, a4, a5, a6, rfl⟩ : ∃ a0 a1 a2 a3 a4 a5 a6, us = [a0, a1, a2, a3, a4, a5, a6] := by
    have hl := h.length
    match us, hl with
    | [a0, a1, a2, a3, a4, a5, a6], _ => exact ⟨a0, a1, a2, a3, a4, a5, a6, rfl⟩
  cases a0 <;> first | exact h.elim | skip
  cases a1 <;> first | exact h.2.2.elim | skip
  cases a2 <;> first | exact h.2.2.2.2.elim | skip
  cases a3 <;> first | exact h.2.2.2.2.2.2.elim | skip
  cases a4 <;> first | exact h.2.2.2.2.2.2.2.2.elim | skip
  cases a5 <;> first | exact h.2.2.2.2.2.2.2.2.2.2.elim | skip
  cases a6 <;> first | exact h.2.2.2.2.2.2.2.2.2.2.2.elim | skip
  obtain ⟨rfl, _, rfl, _, rfl, _, rfl, _, rfl, _, _, rfl, _, _⟩ := h
  exact ⟨⟨_, _, _, _, _, _, _⟩, rfl⟩

theorem Tryd.ev_arg {H : Type} {enc : TypeId × Value → H} {W : World} {base : Nat} {v : Value} {d : DataW H} {p : List MemPlace} (hv : Value.okWide Tryd.prog W .any base 23 v) (h : DataW.Trod enc Tryd.prog W 0 (fun _ => true) true 23 v d p) :
    ∃ x : Ev, ∀ φ, VR φ x.av v := by
  obtain ⟨us, h1, h2⟩ := open_arg (ks := Tryd.evKinds) Tryd.underlying23 (by kernel_rfl) (by kernel_rfl) hv h
  obtain ⟨x, rfl⟩ := Tryd.ev_shape h1
  exact ⟨x, h2⟩

/-! ### A witness -/

def Tryd.evZero : Value := .agg #[.int .i64 0, .int .i64 0, .int .i64 0, .int .i64 0, .int .i64 0, .string ⟨#[]⟩, .int .i64 0]
def Tryd.evData {H : Type} : DataW H := .agg [.lit (.int .i64 0), .lit (.int .i64 0), .lit (.int .i64 0), .lit (.int .i64 0), .lit (.int .i64 0), .lit (.string []), .lit (.int .i64 0)]
def cellsOfData : DataW Unit → Array Value
  | .agg ps => (ps.map fun | .lit (.int k n) => Value.int k n | _ => Go.undef).toArray
  | _ => #[]
def setCells (h : Array Obj) (g : Nat) (cs : Array Value) : Array Obj := h.modify g fun
  | .cells _ t frozen => .cells cs t frozen
  | o => o
noncomputable def Tryd.laidWorld (os : Os) : World :=
  { World.holding Tryd.prog os ⟨#[], #[], []⟩ with heap := setCells (setCells (setCells (World.holding Tryd.prog os ⟨#[], #[], []⟩).heap 0 (cellsOfData Rows.laid_internal_strconv_uint64pow10)) 2 (cellsOfData Rows.laid_math_bits_deBruijn32tab)) 3 (cellsOfData Rows.laid_math_bits_deBruijn64tab) }

end Go.Proofs.YtjpppajbhpbkiaaDoor
