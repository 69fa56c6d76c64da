/-
More rows of the library: strings.Count, Index, IndexByte, HasSuffix, Cut, Split. Conditions: the contracts that each theorem names.
-/
import Derived.Test.YtolilamofgildaaGreatDoorAm37
import Derived.Lib.CleanWalkFns
import Derived.Lib.IndexMore
import Derived.Lib.Strings
set_option linter.unusedSimpArgs false
set_option linter.unusedVariables false
namespace Go.Am
open Go.RowKit
section
variable {P : Program} {B : Base}

/-- strings.Count, of one byte. -/
def gCount : List AV → AH → Option (Out × AH)
  | [.str s, .str [c]], H => ok1 H (.int .i64 (Lib.countByte s c))
  | _, _ => none
/-- strings.Index, of one byte. -/
def gIndex : List AV → AH → Option (Out × AH)
  | [.str s, .str [c]], H => ok1 H (.int .i64 (Lib.indexByte s c))
  | _, _ => none
def gIndexByte : List AV → AH → Option (Out × AH)
  | [.str s, .int .u8 c], H => ok1 H (.int .i64 (Lib.indexByte s c.toNat.toUInt8))
  | _, _ => none
def gHasSuffix : List AV → AH → Option (Out × AH)
  | [.str s, .str p], H => if s.length ≤ 9223372036854775807 then ok1 H (.bool (Lib.hasSuffix s p)) else none
  | _, _ => none
def gCut : List AV → AH → Option (Out × AH)
  | [.str s, .str p], H => if s.length < 4294967281 then ok1 H (.tup [.str (Lib.cut s p).1, .str (Lib.cut s p).2.1, .bool (Lib.cut s p).2.2]) else none
  | _, _ => none
def gSplit (ty : TypeId) : List AV → AH → Option (Out × AH)
  | [.str s, .str sep], H =>
    if s.length < 4294967281 ∧ 1 ≤ sep.length ∧ (Lib.splitK sep 0 (Lib.countB ⟨s.toArray⟩ ⟨sep.toArray⟩) s).length = Lib.countB ⟨s.toArray⟩ ⟨sep.toArray⟩ + 1 then
      some (.ok (.sl H.next 0 1 (Lib.splitK sep 0 (Lib.countB ⟨s.toArray⟩ ⟨sep.toArray⟩) s).length (some (Lib.splitK sep 0 (Lib.countB ⟨s.toArray⟩ ⟨sep.toArray⟩) s).length)), H.push ty false ((Lib.splitK sep 0 (Lib.countB ⟨s.toArray⟩ ⟨sep.toArray⟩) s).map .str))
    else none
  | _, _ => none

theorem rowOk_count {f : FuncId} {F : Func} (hF : P.funcs[f]? = some F) (hname : (F.name == "runtime.NumGoroutine") = false) (hb : F.body.isSome = true)
    (h : ∀ (s : ByteArray) (c : UInt8) (w : World), Calls P f #[.string s, .string ⟨#[c]⟩] w fun e w' => e = .returned (.int .i64 (Lib.countByte s.data.toList c)) ∧ w' = w) : RowOk P B f gCount where
  next := fun args H out H' hg => by
    unfold gCount at hg
    split at hg
    · have := ok1_nextG hg; subst this; exact Nat.le_refl _
    · cases hg
  does := fun args H out H' φ vs w hg hr hv _ _ => by
    unfold gCount at hg
    split at hg
    · obtain ⟨rfl, rfl⟩ := ok1_inv hg
      obtain ⟨v, vs', rfl, hv1, hv2⟩ := hv.cons_inv
      obtain rfl := hv1.str_inv
      obtain ⟨v, vs', rfl, hv3, hv4⟩ := hv2.cons_inv
      obtain rfl := hv3.str_inv
      obtain rfl := hv4.nil_inv
      refine does_calls hF hname hb ((h _ _ w).mono ?_)
      rintro e w' ⟨rfl, rfl⟩
      exact Post.ok (Step.refl hr) (VR.int _ _)
    · cases hg

theorem rowOk_index {f : FuncId} {F : Func} (hF : P.funcs[f]? = some F) (hname : (F.name == "runtime.NumGoroutine") = false) (hb : F.body.isSome = true)
    (h : ∀ (s : ByteArray) (c : UInt8) (w : World), Calls P f #[.string s, .string ⟨#[c]⟩] w fun e w' => e = .returned (.int .i64 (Lib.indexByte s.data.toList c)) ∧ w' = w) : RowOk P B f gIndex where
  next := fun args H out H' hg => by
    unfold gIndex at hg
    split at hg
    · have := ok1_nextG hg; subst this; exact Nat.le_refl _
    · cases hg
  does := fun args H out H' φ vs w hg hr hv _ _ => by
    unfold gIndex at hg
    split at hg
    · obtain ⟨rfl, rfl⟩ := ok1_inv hg
      obtain ⟨v, vs', rfl, hv1, hv2⟩ := hv.cons_inv
      obtain rfl := hv1.str_inv
      obtain ⟨v, vs', rfl, hv3, hv4⟩ := hv2.cons_inv
      obtain rfl := hv3.str_inv
      obtain rfl := hv4.nil_inv
      refine does_calls hF hname hb ((h _ _ w).mono ?_)
      rintro e w' ⟨rfl, rfl⟩
      exact Post.ok (Step.refl hr) (VR.int _ _)
    · cases hg

theorem rowOk_indexByte {f : FuncId} {F : Func} (hF : P.funcs[f]? = some F) (hname : (F.name == "runtime.NumGoroutine") = false) (hb : F.body.isSome = true)
    (h : ∀ (s : ByteArray) (c : Int) (w : World), Calls P f #[.string s, .int .u8 c] w fun e w' => e = .returned (.int .i64 (Lib.indexByte s.data.toList c.toNat.toUInt8)) ∧ w' = w) : RowOk P B f gIndexByte where
  next := fun args H out H' hg => by
    unfold gIndexByte at hg
    split at hg
    · have := ok1_nextG hg; subst this; exact Nat.le_refl _
    · cases hg
  does := fun args H out H' φ vs w hg hr hv _ _ => by
    unfold gIndexByte at hg
    split at hg
    · obtain ⟨rfl, rfl⟩ := ok1_inv hg
      obtain ⟨v, vs', rfl, hv1, hv2⟩ := hv.cons_inv
      obtain rfl := hv1.str_inv
      obtain ⟨v, vs', rfl, hv3, hv4⟩ := hv2.cons_inv
      obtain rfl := hv3.int_inv
      obtain rfl := hv4.nil_inv
      refine does_calls hF hname hb ((h _ _ w).mono ?_)
      rintro e w' ⟨rfl, rfl⟩
      exact Post.ok (Step.refl hr) (VR.int _ _)
    · cases hg

theorem rowOk_hasSuffix {f : FuncId} {F : Func} (hF : P.funcs[f]? = some F) (hname : (F.name == "runtime.NumGoroutine") = false) (hb : F.body.isSome = true)
    (h : ∀ (s p : ByteArray) (w : World) (_ : s.size ≤ 9223372036854775807), Calls P f #[.string s, .string p] w fun e w' => e = .returned (.bool (Lib.hasSuffix s.data.toList p.data.toList)) ∧ w' = w) : RowOk P B f gHasSuffix where
  next := fun args H out H' hg => by
    unfold gHasSuffix at hg
    split at hg
    · split at hg
      · have := ok1_nextG hg; subst this; exact Nat.le_refl _
      · cases hg
    · cases hg
  does := fun args H out H' φ vs w hg hr hv _ _ => by
    unfold gHasSuffix at hg
    split at hg
    · rename_i s p
      split at hg
      · rename_i hl
        obtain ⟨rfl, rfl⟩ := ok1_inv hg
        obtain ⟨v, vs', rfl, hv1, hv2⟩ := hv.cons_inv
        obtain rfl := hv1.str_inv
        obtain ⟨v, vs', rfl, hv3, hv4⟩ := hv2.cons_inv
        obtain rfl := hv3.str_inv
        obtain rfl := hv4.nil_inv
        refine does_calls hF hname hb ((h ⟨s.toArray⟩ ⟨p.toArray⟩ w (by show s.toArray.size ≤ _; simpa using hl)).mono ?_)
        rintro e w' ⟨rfl, rfl⟩
        exact Post.ok (Step.refl hr) (VR.bool _)
      · cases hg
    · cases hg

theorem rowOk_cut {f : FuncId} {F : Func} (hF : P.funcs[f]? = some F) (hname : (F.name == "runtime.NumGoroutine") = false) (hb : F.body.isSome = true) {g : Nat} (hK : ∀ w, B.K w → ∃ m, w.cell? ⟨g, 0, none⟩ = some (.int .i64 m))
    (h : ∀ (s sep : ByteArray) (m : Int) (w : World) (_ : s.size < 4294967281) (_ : w.cell? ⟨g, 0, none⟩ = some (.int .i64 m)), Calls P f #[.string s, .string sep] w fun e w' => e = .returned (.tuple #[.string ⟨(Lib.cut s.data.toList sep.data.toList).1.toArray⟩, .string ⟨(Lib.cut s.data.toList sep.data.toList).2.1.toArray⟩, .bool (Lib.cut s.data.toList sep.data.toList).2.2]) ∧ ∃ n, w' = w.drewN n) : RowOk P B f gCut where
  next := fun args H out H' hg => by
    unfold gCut at hg
    split at hg
    · split at hg
      · have := ok1_nextG hg; subst this; exact Nat.le_refl _
      · cases hg
    · cases hg
  does := fun args H out H' φ vs w hg hr hv _ _ => by
    unfold gCut at hg
    split at hg
    · rename_i s p
      split at hg
      · rename_i hl
        obtain ⟨rfl, rfl⟩ := ok1_inv hg
        obtain ⟨v, vs', rfl, hv1, hv2⟩ := hv.cons_inv
        obtain rfl := hv1.str_inv
        obtain ⟨v, vs', rfl, hv3, hv4⟩ := hv2.cons_inv
        obtain rfl := hv3.str_inv
        obtain rfl := hv4.nil_inv
        obtain ⟨m, hm⟩ := hK w hr.know.1.1
        refine does_calls hF hname hb ((h ⟨s.toArray⟩ ⟨p.toArray⟩ m w (by show s.toArray.size < _; simpa using hl) hm).mono ?_)
        rintro e w' ⟨rfl, n, rfl⟩
        exact Post.ok (Step.grown hr (Go.Lib.Lz.below_drewN (Below.refl _ _) n)) (VRs.tup (VRs.cons (VR.str _) (VRs.cons (VR.str _) (VRs.cons (VR.bool _) .nil))) .nil)
      · cases hg
    · cases hg

theorem rowOk_split {f : FuncId} {F : Func} {ty : TypeId} (hF : P.funcs[f]? = some F) (hname : (F.name == "runtime.NumGoroutine") = false) (hb : F.body.isSome = true) {g : Nat} (hK : ∀ w, B.K w → ∃ m, w.cell? ⟨g, 0, none⟩ = some (.int .i64 m))
    (h : ∀ (s sep : ByteArray) (m : Int) (w : World) (_ : s.size < 4294967281) (_ : w.cell? ⟨g, 0, none⟩ = some (.int .i64 m)) (_ : 1 ≤ sep.size),
      Calls P f #[.string s, .string sep] w fun e w' =>
        e = .returned (.slice (some ⟨w.heap.size, 0, none⟩) (Lib.countB s sep + 1) (Lib.countB s sep + 1)) ∧ w' = w.alloc (.cells ((Lib.splitB sep 0 (Lib.countB s sep) s).map Value.string).toArray ty)) : RowOk P B f (gSplit ty) where
  next := fun args H out H' hg => by
    unfold gSplit at hg
    split at hg
    · split at hg
      · simp only [Option.some.injEq, Prod.mk.injEq] at hg; obtain ⟨_, rfl⟩ := hg; exact Nat.le_succ _
      · cases hg
    · cases hg
  does := fun args H out H' φ vs w hg hr hv hgl hfree => by
    unfold gSplit at hg
    split at hg
    · rename_i s sep
      split at hg
      · rename_i hc
        obtain ⟨h1, h2, h5⟩ := hc
        simp only [Option.some.injEq, Prod.mk.injEq] at hg
        obtain ⟨rfl, rfl⟩ := hg
        obtain ⟨v, vs', rfl, hv1, hv2⟩ := hv.cons_inv
        obtain rfl := hv1.str_inv
        obtain ⟨v, vs', rfl, hv3, hv4⟩ := hv2.cons_inv
        obtain rfl := hv3.str_inv
        obtain rfl := hv4.nil_inv
        obtain ⟨m, hm⟩ := hK w hr.know.1.1
        have e1 : (⟨s.toArray⟩ : ByteArray).size = s.length := by show s.toArray.size = _; simp
        have e2 : (⟨sep.toArray⟩ : ByteArray).size = sep.length := by show sep.toArray.size = _; simp
        have hps : (Lib.splitB ⟨sep.toArray⟩ 0 (Lib.countB ⟨s.toArray⟩ ⟨sep.toArray⟩) ⟨s.toArray⟩).map (·.data.toList) = Lib.splitK sep 0 (Lib.countB ⟨s.toArray⟩ ⟨sep.toArray⟩) s := Lib.splitB_data ⟨sep.toArray⟩ 0 (Lib.countB ⟨s.toArray⟩ ⟨sep.toArray⟩) ⟨s.toArray⟩
        have hcall := h ⟨s.toArray⟩ ⟨sep.toArray⟩ m w (by rw [e1]; exact h1) hm (by rw [e2]; exact h2)
        generalize Lib.countB ⟨s.toArray⟩ ⟨sep.toArray⟩ = k at hps hcall h5 ⊢
        generalize Lib.splitK sep 0 k s = qs at hps h5 ⊢
        refine does_calls hF hname hb (hcall.mono ?_)
        rintro e w' ⟨rfl, rfl⟩
        generalize Lib.splitB ⟨sep.toArray⟩ 0 k ⟨s.toArray⟩ = ps at hps ⊢
        have hlen : ps.length = qs.length := by rw [← hps, List.length_map]
        have hst := Step.push hr ty false (qs.map .str) (ps.map Value.string).toArray (hfree H.next (Nat.le_refl _) (Nat.lt_succ_self _)) (fun j v hj => by
          rw [← hps] at hj
          simp only [List.map_map, List.getElem?_map, Option.map_eq_some_iff, Function.comp_def] at hj
          obtain ⟨x, hx, rfl⟩ := hj
          refine ⟨.string x, by simp [hx], ?_⟩
          have := VR.str (φ := φ) x.data.toList
          have e : (⟨x.data.toList.toArray⟩ : ByteArray) = x := by cases x; simp
          rw [e] at this
          exact this) (by simp [hlen]) (fun h => by cases h)
        have hk : k + 1 = (ps.map Value.string).toArray.size := by simp [hlen, h5]
        refine Post.ok hst ?_
        rw [← h5]
        refine VRs.sl (m := some (ps.map Value.string).toArray.size) (s := 0) (p := w.heap.size) ?_ ?_ (Nat.le_refl _) (fun d hd => by simpa using hd) .nil
        · simp [Emb.upd]
        · intro r hr'; simp only [Option.some.injEq] at hr'; omega
      · cases hg
    · cases hg
end
end Go.Am
