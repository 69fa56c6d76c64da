/-
The rows of the library in this cut, and the examples that the statements check first. Conditions: the table of powers of ten holds what it holds, and a variable of the library holds an int.
-/
import Derived.Test.YtodonjfcaimgiaaDoorAmTab
import Derived.Test.YtodonjfcaimgiaaDoorAm41
import Derived.Test.YtodonjfcaimgiaaDoorShelf
import Derived.Lib.AppendIntMem
import Derived.Lib.AtoiErrMem
set_option linter.unusedSimpArgs false
set_option linter.unusedVariables false
namespace Go.Am
open Go.Proofs

def Tryd.ext : List (Nat × (List AV → AH → Option (Out × AH))) := [(30, gItoa), (31, gJoin), (77, gSame), (36, gSplitN2 9), (57, gAtoi2 108), (46, gCompare)]

theorem Tryd.extOk {B : Base} (hK : ∀ w, B.K w → Lib.TabIs Tryd.prog w "internal/strconv.uint64pow10" .u64 Lib.pow10Tab) (hM : ∀ w, B.K w → ∃ m, w.cell? ⟨0, 0, none⟩ = some (.int .i64 m)) (hE : ∀ w, B.K w → ∃ ev, w.cell? ⟨3, 0, none⟩ = some ev ∧ (ev = .nilIface ∨ ∃ te pe, ev = .iface te pe)) : ExtOk Tryd.prog B (lk Tryd.ext) :=
  extOk_cons (rowOk_itoa Tryd.func30 (by kernel_rfl) (by kernel_rfl) hK fun n h0 h1 w ht => (Tryd.strconv_Itoa n h0 h1 w ht).mono (by rintro e w' ⟨rfl, k, os, rfl⟩; exact ⟨rfl, Lib.below_grow _ w (Nat.le_refl _) k os⟩)) <|
  extOk_cons (rowOk_join Tryd.func31 (by kernel_rfl) (by kernel_rfl) Tryd.strings_Join_none Tryd.strings_Join) <|
  extOk_cons (rowOk_noEscape Tryd.func77 (by kernel_rfl) (by kernel_rfl) (by kernel_rfl) (by kernel_rfl)) <|
  extOk_cons (rowOk_splitN2 Tryd.func36 (by kernel_rfl) (by kernel_rfl) hM Tryd.strings_SplitN) <|
  extOk_cons (rowOk_atoi2 (g := 3) Tryd.func57 (by kernel_rfl) (by kernel_rfl) hE (fun s hl v h w => (Tryd.strconv_Atoi_ok s hl v h w).mono (by
    rintro e w' ⟨rfl, rfl | ⟨t, rfl⟩⟩
    · exact ⟨rfl, Go.RowKit.Below.refl _ _⟩
    · exact ⟨rfl, Lib.bytesWorld_below w 5 t⟩)) fun s hl h ev w h1 h2 => (Tryd.strconv_Atoi_range s hl h ev w h1 h2).mono (by
    rintro e w' ⟨N, rfl, _, _, hb⟩
    exact ⟨_, rfl, hb⟩)) <|
  extOk_cons (rowOk_compare Tryd.func46 (by kernel_rfl) (by kernel_rfl) Tryd.strings_Compare) <|
  extOk_nil

theorem Tryd.awake_run : (fun H : AH => acall 8 [] (lk Tryd.ext) (lk Tryd.tab) 100 9 [] H) = fun H => some (.ok (.bool true), H) := by kernel_rfl

end Go.Am
