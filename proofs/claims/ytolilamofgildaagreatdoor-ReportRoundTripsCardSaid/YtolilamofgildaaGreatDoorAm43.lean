/-
More rows of the library: strings.Index, Contains of any substring, TrimLeft, Repeat, CutPrefix, HasPrefix. Conditions: the contracts that each theorem names.
-/
import Derived.Test.YtolilamofgildaaGreatDoorAm40
import Derived.Lib.TrimByte
import Derived.Lib.Repeat
set_option linter.unusedSimpArgs false
set_option linter.unusedVariables false
namespace Go.Am
open Go.RowKit
section
variable {P : Program} {B : Base}

def gIndexS : List AV → AH → Option (Out × AH)
  | [.str s, .str p], H => if s.length < 4294967281 then ok1 H (.int .i64 (Lib.index s p)) else none
  | _, _ => none
def gContains : List AV → AH → Option (Out × AH)
  | [.str s, .str p], H => if s.length < 4294967281 then ok1 H (.bool (Lib.contains s p)) else none
  | _, _ => none
/-- strings.TrimLeft, of one byte. -/
def gTrimLeft : List AV → AH → Option (Out × AH)
  | [.str s, .str [c]], H => if c.toNat < 128 then ok1 H (.str (Lib.trimLeftB s c)) else none
  | _, _ => none
/-- strings.Repeat, twice or more. -/
def gRepeat : List AV → AH → Option (Out × AH)
  | [.str s, .int .i64 n], H => if 2 ≤ n ∧ n ≤ 9223372036854775807 ∧ s.length * n.toNat ≤ 140737488355328 ∧ 0 < s.length then ok1 H (.str (Lib.repeatL s n.toNat)) else none
  | _, _ => none
def gCutPrefix : List AV → AH → Option (Out × AH)
  | [.str s, .str p], H => ok1 H (.tup [.str (Lib.trimPrefix s p), .bool (Lib.hasPrefix s p)])
  | _, _ => none

theorem rowOk_indexS {f : FuncId} {F : Func} (hF : P.funcs[f]? = some F) (hname : (F.name == "runtime.NumGoroutine") = false) (hb : F.body.isSome = true) {g : Nat} (hK : ∀ w, B.K w → ∃ m, w.cell? ⟨g, 0, none⟩ = some (.int .i64 m))
    (h : ∀ (s p : ByteArray) (m : Int) (w : World) (_ : s.size < 4294967281) (_ : w.cell? ⟨g, 0, none⟩ = some (.int .i64 m)), Calls P f #[.string s, .string p] w fun e w' => e = .returned (.int .i64 (Lib.index s.data.toList p.data.toList)) ∧ w' = w) : RowOk P B f gIndexS where
  next := fun args H out H' hg => by
    unfold gIndexS at hg
    split at hg
    · split at hg
      · have := ok1_nextG hg; subst this; exact Nat.le_refl _
      · cases hg
    · cases hg
  does := fun args H out H' φ vs w hg hr hv _ _ => by
    unfold gIndexS at hg
    split at hg
    · rename_i s p
      split at hg
      · rename_i hl
        obtain ⟨rfl, rfl⟩ := ok1_inv hg
        obtain ⟨v, vs', rfl, hv1, hv2⟩ := hv.cons_inv
        obtain rfl := hv1.str_inv
        obtain ⟨v, vs', rfl, hv3, hv4⟩ := hv2.cons_inv
        obtain rfl := hv3.str_inv
        obtain rfl := hv4.nil_inv
        obtain ⟨m, hm⟩ := hK w hr.know.1.1
        refine does_calls hF hname hb ((h ⟨s.toArray⟩ ⟨p.toArray⟩ m w (by show s.toArray.size < _; simpa using hl) hm).mono ?_)
        rintro e w' ⟨rfl, rfl⟩
        exact Post.ok (Step.refl hr) (VR.int _ _)
      · cases hg
    · cases hg

theorem rowOk_contains {f : FuncId} {F : Func} (hF : P.funcs[f]? = some F) (hname : (F.name == "runtime.NumGoroutine") = false) (hb : F.body.isSome = true) {g : Nat} (hK : ∀ w, B.K w → ∃ m, w.cell? ⟨g, 0, none⟩ = some (.int .i64 m))
    (h : ∀ (s p : ByteArray) (m : Int) (w : World) (_ : s.size < 4294967281) (_ : w.cell? ⟨g, 0, none⟩ = some (.int .i64 m)), Calls P f #[.string s, .string p] w fun e w' => e = .returned (.bool (Lib.contains s.data.toList p.data.toList)) ∧ w' = w) : RowOk P B f gContains where
  next := fun args H out H' hg => by
    unfold gContains at hg
    split at hg
    · split at hg
      · have := ok1_nextG hg; subst this; exact Nat.le_refl _
      · cases hg
    · cases hg
  does := fun args H out H' φ vs w hg hr hv _ _ => by
    unfold gContains at hg
    split at hg
    · rename_i s p
      split at hg
      · rename_i hl
        obtain ⟨rfl, rfl⟩ := ok1_inv hg
        obtain ⟨v, vs', rfl, hv1, hv2⟩ := hv.cons_inv
        obtain rfl := hv1.str_inv
        obtain ⟨v, vs', rfl, hv3, hv4⟩ := hv2.cons_inv
        obtain rfl := hv3.str_inv
        obtain rfl := hv4.nil_inv
        obtain ⟨m, hm⟩ := hK w hr.know.1.1
        refine does_calls hF hname hb ((h ⟨s.toArray⟩ ⟨p.toArray⟩ m w (by show s.toArray.size < _; simpa using hl) hm).mono ?_)
        rintro e w' ⟨rfl, rfl⟩
        exact Post.ok (Step.refl hr) (VR.bool _)
      · cases hg
    · cases hg

theorem rowOk_trimLeft {f : FuncId} {F : Func} (hF : P.funcs[f]? = some F) (hname : (F.name == "runtime.NumGoroutine") = false) (hb : F.body.isSome = true)
    (h : ∀ (s : ByteArray) (c : UInt8) (_ : c.toNat < 128) (w : World), Calls P f #[.string s, .string ⟨#[c]⟩] w fun e w' => e = .returned (.string ⟨(Lib.trimLeftB s.data.toList c).toArray⟩) ∧ w' = w) : RowOk P B f gTrimLeft where
  next := fun args H out H' hg => by
    unfold gTrimLeft at hg
    split at hg
    · split at hg
      · have := ok1_nextG hg; subst this; exact Nat.le_refl _
      · cases hg
    · cases hg
  does := fun args H out H' φ vs w hg hr hv _ _ => by
    unfold gTrimLeft at hg
    split at hg
    · rename_i s c
      split at hg
      · rename_i hl
        obtain ⟨rfl, rfl⟩ := ok1_inv hg
        obtain ⟨v, vs', rfl, hv1, hv2⟩ := hv.cons_inv
        obtain rfl := hv1.str_inv
        obtain ⟨v, vs', rfl, hv3, hv4⟩ := hv2.cons_inv
        obtain rfl := hv3.str_inv
        obtain rfl := hv4.nil_inv
        refine does_calls hF hname hb ((h ⟨s.toArray⟩ c hl w).mono ?_)
        rintro e w' ⟨rfl, rfl⟩
        exact Post.ok (Step.refl hr) (VR.str _)
      · cases hg
    · cases hg

theorem rowOk_repeat {f : FuncId} {F : Func} (hF : P.funcs[f]? = some F) (hname : (F.name == "runtime.NumGoroutine") = false) (hb : F.body.isSome = true)
    (h : ∀ (s : ByteArray) (c : Nat) (w : World) (_ : 2 ≤ c) (_ : c ≤ 9223372036854775807) (_ : s.size * c ≤ 140737488355328) (_ : 0 < s.size), Calls P f #[.string s, .int .i64 c] w fun e w' => e = .returned (.string ⟨(Lib.repeatL s.data.toList c).toArray⟩) ∧ Below w.heap.size w w') : RowOk P B f gRepeat where
  next := fun args H out H' hg => by
    unfold gRepeat at hg
    split at hg
    · split at hg
      · have := ok1_nextG hg; subst this; exact Nat.le_refl _
      · cases hg
    · cases hg
  does := fun args H out H' φ vs w hg hr hv _ _ => by
    unfold gRepeat at hg
    split at hg
    · rename_i s n
      split at hg
      · rename_i hl
        obtain ⟨h1, h2, h3, h4⟩ := hl
        obtain ⟨rfl, rfl⟩ := ok1_inv hg
        obtain ⟨v, vs', rfl, hv1, hv2⟩ := hv.cons_inv
        obtain rfl := hv1.str_inv
        obtain ⟨v, vs', rfl, hv3, hv4⟩ := hv2.cons_inv
        obtain rfl := hv3.int_inv
        obtain rfl := hv4.nil_inv
        have hn : ((n.toNat : Nat) : Int) = n := by omega
        have e1 : (⟨s.toArray⟩ : ByteArray).size = s.length := by show s.toArray.size = _; simp
        have hc := h ⟨s.toArray⟩ n.toNat w (by omega) (by omega) (by rw [e1]; exact h3) (by rw [e1]; exact h4)
        rw [hn] at hc
        refine does_calls hF hname hb (hc.mono ?_)
        rintro e w' ⟨rfl, hbl⟩
        exact Post.ok (Step.grown hr hbl) (VR.str _)
      · cases hg
    · cases hg

theorem rowOk_cutPrefix {f : FuncId} {F : Func} (hF : P.funcs[f]? = some F) (hname : (F.name == "runtime.NumGoroutine") = false) (hb : F.body.isSome = true)
    (h : ∀ (s p : ByteArray) (w : World), Calls P f #[.string s, .string p] w fun e w' => e = .returned (.tuple #[.string ⟨(Lib.trimPrefix s.data.toList p.data.toList).toArray⟩, .bool (Lib.hasPrefix s.data.toList p.data.toList)]) ∧ w' = w) : RowOk P B f gCutPrefix where
  next := fun args H out H' hg => by
    unfold gCutPrefix at hg
    split at hg
    · have := ok1_nextG hg; subst this; exact Nat.le_refl _
    · cases hg
  does := fun args H out H' φ vs w hg hr hv _ _ => by
    unfold gCutPrefix at hg
    split at hg
    · rename_i s p
      obtain ⟨rfl, rfl⟩ := ok1_inv hg
      obtain ⟨v, vs', rfl, hv1, hv2⟩ := hv.cons_inv
      obtain rfl := hv1.str_inv
      obtain ⟨v, vs', rfl, hv3, hv4⟩ := hv2.cons_inv
      obtain rfl := hv3.str_inv
      obtain rfl := hv4.nil_inv
      refine does_calls hF hname hb ((h ⟨s.toArray⟩ ⟨p.toArray⟩ w).mono ?_)
      rintro e w' ⟨rfl, rfl⟩
      exact Post.ok (Step.refl hr) (VRs.tup (VRs.cons (VR.str _) (VRs.cons (VR.bool _) .nil)) .nil)
    · cases hg
end
end Go.Am
