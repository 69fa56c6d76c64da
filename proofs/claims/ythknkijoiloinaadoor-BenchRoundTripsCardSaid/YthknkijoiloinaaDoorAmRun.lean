/-
The rows of the library in this cut, and the examples that the statements check first. Conditions: the table of powers of ten holds what it holds, and a variable of the library holds an int.
-/
import Derived.Test.YthknkijoiloinaaDoorAmTab
import Derived.Test.YthknkijoiloinaaDoorAm40
import Derived.Test.YthknkijoiloinaaDoorShelf
import Derived.Lib.AppendIntMem
set_option linter.unusedSimpArgs false
set_option linter.unusedVariables false
namespace Go.Am
open Go.Proofs

def Tryd.ext : List (Nat × (List AV → AH → Option (Out × AH))) := [(18, gItoa), (19, gCount), (23, gCut), (30, gHasSuffix), (35, gIndex), (39, gSplit 9), (41, gIndexByte), (46, gSame)]

theorem Tryd.extOk {B : Base} (hK : ∀ w, B.K w → Lib.TabIs Tryd.prog w "internal/strconv.uint64pow10" .u64 Lib.pow10Tab) (hM : ∀ w, B.K w → ∃ m, w.cell? ⟨0, 0, none⟩ = some (.int .i64 m)) : ExtOk Tryd.prog B (lk Tryd.ext) :=
  extOk_cons (rowOk_itoa Tryd.func18 (by kernel_rfl) (by kernel_rfl) hK fun n h0 h1 w ht => (Tryd.strconv_Itoa n h0 h1 w ht).mono (by rintro e w' ⟨rfl, k, os, rfl⟩; exact ⟨rfl, Lib.below_grow _ w (Nat.le_refl _) k os⟩)) <|
  extOk_cons (rowOk_count Tryd.func19 (by kernel_rfl) (by kernel_rfl) Tryd.strings_Count_one) <|
  extOk_cons (rowOk_cut Tryd.func23 (by kernel_rfl) (by kernel_rfl) hM Tryd.strings_Cut) <|
  extOk_cons (rowOk_hasSuffix Tryd.func30 (by kernel_rfl) (by kernel_rfl) Tryd.strings_HasSuffix) <|
  extOk_cons (rowOk_index Tryd.func35 (by kernel_rfl) (by kernel_rfl) Tryd.strings_Index_one) <|
  extOk_cons (rowOk_split Tryd.func39 (by kernel_rfl) (by kernel_rfl) hM Tryd.strings_Split) <|
  extOk_cons (rowOk_indexByte Tryd.func41 (by kernel_rfl) (by kernel_rfl) Tryd.strings_IndexByte) <|
  extOk_cons (rowOk_noEscape Tryd.func46 (by kernel_rfl) (by kernel_rfl) (by kernel_rfl) (by kernel_rfl)) <|
  extOk_nil

theorem Tryd.awake_run : (fun H : AH => acall 6 [] (lk Tryd.ext) (lk Tryd.tab) 100 8 [] H) = fun H => some (.ok (.bool true), H) := by kernel_rfl

end Go.Am
