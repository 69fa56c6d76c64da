/-
The rows of the library in this cut, and the examples that the statements check first. Conditions: the table of powers of ten holds what it holds.
-/
import Derived.Test.YtjpppajbhpbkiaaDoorAmTab
import Derived.Test.YtjpppajbhpbkiaaDoorMc
import Derived.Test.YtjpppajbhpbkiaaDoorShelf
import Derived.Lib.AppendIntMem
set_option linter.unusedSimpArgs false
set_option linter.unusedVariables false
namespace Go.Am
open Go.Proofs

def Tryd.ext : List (Nat × (List AV → AH → Option (Out × AH))) := [(35, gItoa), (36, gJoin), (57, gSame)]

theorem Tryd.extOk {B : Base} (hK : ∀ w, B.K w → Lib.TabIs Tryd.prog w "internal/strconv.uint64pow10" .u64 Lib.pow10Tab) : ExtOk Tryd.prog B (lk Tryd.ext) :=
  extOk_cons (rowOk_itoa Tryd.func35 (by kernel_rfl) (by kernel_rfl) hK fun n h0 h1 w ht => (Tryd.strconv_Itoa n h0 h1 w ht).mono (by rintro e w' ⟨rfl, k, os, rfl⟩; exact ⟨rfl, Lib.below_grow _ w (Nat.le_refl _) k os⟩)) <|
  extOk_cons (rowOk_join Tryd.func36 (by kernel_rfl) (by kernel_rfl) Tryd.strings_Join_none Tryd.strings_Join) <|
  extOk_cons (rowOk_noEscape Tryd.func57 (by kernel_rfl) (by kernel_rfl) (by kernel_rfl) (by kernel_rfl)) <|
  extOk_nil

theorem Tryd.awake_run : (fun H : AH => acall 4 [] (lk Tryd.ext) (lk Tryd.tab) 100 9 [] H) = fun H => some (.ok (.bool true), H) := by kernel_rfl

end Go.Am
