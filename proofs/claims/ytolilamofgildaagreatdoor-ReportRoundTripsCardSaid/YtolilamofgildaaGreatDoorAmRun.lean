/-
The rows of the library in this cut, and the examples that the statements check first. Conditions: the table of powers of ten holds what it holds, and variables of the library hold an int, and an error.
-/
import Derived.Test.YtolilamofgildaaGreatDoorAmTab
import Derived.Test.YtolilamofgildaaGreatDoorAm41
import Derived.Test.YtolilamofgildaaGreatDoorAm43
import Derived.Test.YtolilamofgildaaGreatDoorShelf
import Derived.Lib.AppendIntMem
import Derived.Lib.AtoiErrMem
set_option linter.unusedSimpArgs false
set_option linter.unusedVariables false
namespace Go.Am
open Go.Proofs

def Tryz.ext : List (Nat × (List AV → AH → Option (Out × AH))) := [(23, gItoa), (35, gJoin), (45, gSame), (18, gIndexByte), (31, gIndexS), (32, gTrimLeft), (41, gContains), (28, gRepeat), (38, gSplitN2 9), (76, gAtoi2 140)]

theorem Tryz.extOk {B : Base} (hK : ∀ w, B.K w → Lib.TabIs Tryz.prog w "internal/strconv.uint64pow10" .u64 Lib.pow10Tab) (hM : ∀ w, B.K w → ∃ m, w.cell? ⟨0, 0, none⟩ = some (.int .i64 m)) (hE : ∀ w, B.K w → ∃ ev, w.cell? ⟨7, 0, none⟩ = some ev ∧ (ev = .nilIface ∨ ∃ te pe, ev = .iface te pe)) : ExtOk Tryz.prog B (lk Tryz.ext) :=
  extOk_cons (rowOk_itoa Tryz.func23 (by kernel_rfl) (by kernel_rfl) hK fun n h0 h1 w ht => (Tryz.strconv_Itoa n h0 h1 w ht).mono (by rintro e w' ⟨rfl, k, os, rfl⟩; exact ⟨rfl, Lib.below_grow _ w (Nat.le_refl _) k os⟩)) <|
  extOk_cons (rowOk_join Tryz.func35 (by kernel_rfl) (by kernel_rfl) Tryz.strings_Join_none Tryz.strings_Join) <|
  extOk_cons (rowOk_noEscape Tryz.func45 (by kernel_rfl) (by kernel_rfl) (by kernel_rfl) (by kernel_rfl)) <|
  extOk_cons (rowOk_indexByte Tryz.func18 (by kernel_rfl) (by kernel_rfl) Tryz.strings_IndexByte) <|
  extOk_cons (rowOk_indexS Tryz.func31 (by kernel_rfl) (by kernel_rfl) hM Tryz.strings_Index) <|
  extOk_cons (rowOk_trimLeft Tryz.func32 (by kernel_rfl) (by kernel_rfl) Tryz.strings_TrimLeft_one) <|
  extOk_cons (rowOk_contains Tryz.func41 (by kernel_rfl) (by kernel_rfl) hM Tryz.strings_Contains) <|
  extOk_cons (rowOk_repeat Tryz.func28 (by kernel_rfl) (by kernel_rfl) Tryz.strings_Repeat_main) <|
  extOk_cons (rowOk_splitN2 Tryz.func38 (by kernel_rfl) (by kernel_rfl) hM Tryz.strings_SplitN) <|
  extOk_cons (rowOk_atoi2 (g := 7) Tryz.func76 (by kernel_rfl) (by kernel_rfl) hE (fun s hl v h w => (Tryz.strconv_Atoi_ok s hl v h w).mono (by
    rintro e w' ⟨rfl, rfl | ⟨t, rfl⟩⟩
    · exact ⟨rfl, Go.RowKit.Below.refl _ _⟩
    · exact ⟨rfl, Lib.bytesWorld_below w 5 t⟩)) fun s hl h ev w h1 h2 => (Tryz.strconv_Atoi_range s hl h ev w h1 h2).mono (by
    rintro e w' ⟨N, rfl, _, _, hb⟩
    exact ⟨_, rfl, hb⟩)) <|
  extOk_nil

theorem Tryz.awake_run : (fun H : AH => acall 8 [] (lk Tryz.ext) (lk Tryz.tab) 100 4 [] H) = fun H => some (.ok (.bool true), H) := by kernel_rfl

end Go.Am
