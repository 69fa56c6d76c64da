/-
The rows of the library in this cut, and the examples that the statements check first. Conditions: the table of powers of ten holds what it holds, and a variable of the library holds an int.
-/
import Derived.Test.YtolilamofgildaaDoorAmTab
import Derived.Test.YtolilamofgildaaDoorAm43
import Derived.Test.YtolilamofgildaaDoorShelf
import Derived.Lib.AppendIntMem
set_option linter.unusedSimpArgs false
set_option linter.unusedVariables false
namespace Go.Am
open Go.Proofs

def Tryd.ext : List (Nat × (List AV → AH → Option (Out × AH))) := [(31, gItoa), (45, gJoin), (58, gSame), (35, gIndexByte), (52, gIndexS), (53, gTrimLeft), (54, gContains), (41, gRepeat)]

theorem Tryd.extOk {B : Base} (hK : ∀ w, B.K w → Lib.TabIs Tryd.prog w "internal/strconv.uint64pow10" .u64 Lib.pow10Tab) (hM : ∀ w, B.K w → ∃ m, w.cell? ⟨0, 0, none⟩ = some (.int .i64 m)) : ExtOk Tryd.prog B (lk Tryd.ext) :=
  extOk_cons (rowOk_itoa Tryd.func31 (by kernel_rfl) (by kernel_rfl) hK fun n h0 h1 w ht => (Tryd.strconv_Itoa n h0 h1 w ht).mono (by rintro e w' ⟨rfl, k, os, rfl⟩; exact ⟨rfl, Lib.below_grow _ w (Nat.le_refl _) k os⟩)) <|
  extOk_cons (rowOk_join Tryd.func45 (by kernel_rfl) (by kernel_rfl) Tryd.strings_Join_none Tryd.strings_Join) <|
  extOk_cons (rowOk_noEscape Tryd.func58 (by kernel_rfl) (by kernel_rfl) (by kernel_rfl) (by kernel_rfl)) <|
  extOk_cons (rowOk_indexByte Tryd.func35 (by kernel_rfl) (by kernel_rfl) Tryd.strings_IndexByte) <|
  extOk_cons (rowOk_indexS Tryd.func52 (by kernel_rfl) (by kernel_rfl) hM Tryd.strings_Index) <|
  extOk_cons (rowOk_trimLeft Tryd.func53 (by kernel_rfl) (by kernel_rfl) Tryd.strings_TrimLeft_one) <|
  extOk_cons (rowOk_contains Tryd.func54 (by kernel_rfl) (by kernel_rfl) hM Tryd.strings_Contains) <|
  extOk_cons (rowOk_repeat Tryd.func41 (by kernel_rfl) (by kernel_rfl) Tryd.strings_Repeat_main) <|
  extOk_nil

theorem Tryd.awake_run : (fun H : AH => acall 6 [] (lk Tryd.ext) (lk Tryd.tab) 100 8 [] H) = fun H => some (.ok (.bool true), H) := by kernel_rfl

end Go.Am
