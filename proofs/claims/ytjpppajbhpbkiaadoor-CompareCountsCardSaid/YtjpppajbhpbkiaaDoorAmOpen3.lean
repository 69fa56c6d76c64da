/-
Lists of events as arguments of a law. Conditions: they can be read.
-/
import Derived.Test.YtjpppajbhpbkiaaDoorAmOpen
import Derived.Test.YtjpppajbhpbkiaaDoorAmO
import Derived.Test.YtjpppajbhpbkiaaDoorAmE
set_option linter.unusedSimpArgs false
set_option linter.unusedVariables false
set_option maxRecDepth 100000
namespace Go.Proofs.YtjpppajbhpbkiaaDoor
open Go.ChangeShapes Go.WideShapes Go.ChangeAt Go.RowKit Go.Am

theorem Tryd.know {W : World} (hL : laidMetH Tryd.prog Rows.compareKeysRow.laid W) (hS : W.ShapedOpen Tryd.prog) : (Tryd.base W.heap.size (Tryd.tab_pos (Tryd.laid_tab hL))).K W := Tryd.laid_tab hL

theorem Tryd.levs_arg {H : Type} {enc : TypeId × Value → H} {W : World} {base : Nat} {v : Value} {d : DataW H} {p : List MemPlace} (hv : Value.okWide Tryd.prog W .any base 27 v) (h : DataW.Trod enc Tryd.prog W 0 (fun _ => true) true 27 v d p) :
    ∃ l, ArgS W Ev.cells 7 v l := by
  obtain ⟨a, len, cap, rfl⟩ := okWide_slice Tryd.underlying27 hv
  obtain ⟨fuel, hf⟩ := h
  have hf' : DataW.trod enc Tryd.prog W 0 (fun _ => true) true fuel 27 [.slice a len cap] = some (d, p) := by simpa [Value.cells] using hf
  exact slice_arg (m := 7) (ks := Tryd.evKinds) Tryd.underlying27 Tryd.underlying23 (by kernel_rfl) (by kernel_rfl) rfl (by omega) Ev.cells_len (fun us h => Tryd.ev_shape h) ⟨0, 0, 0, 0, 0, [], 0⟩ hf'

end Go.Proofs.YtjpppajbhpbkiaaDoor
