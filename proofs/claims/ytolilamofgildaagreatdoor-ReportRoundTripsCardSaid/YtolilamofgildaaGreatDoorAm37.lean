/-
More rows of the library: strings.SplitN, strconv.Atoi (of numerals), strings.Compare. Conditions: the contracts that each theorem names.
-/
import Derived.Test.YtolilamofgildaaGreatDoorMc
import Derived.Lib.SplitLaws
import Derived.Lib.AtoiAll
set_option linter.unusedSimpArgs false
set_option linter.unusedVariables false
namespace Go.Am
open Go.RowKit
section
variable {P : Program} {B : Base}

theorem bytes_eta (s : List UInt8) : (⟨s.toArray⟩ : ByteArray).data.toList = s := rfl

/-! ### strings.Compare -/

def gCompare : List AV → AH → Option (Out × AH)
  | [.str a, .str b], H => ok1 H (.int .i64 (Lib.compareBytes a b))
  | _, _ => none

theorem rowOk_compare {f : FuncId} {F : Func} (hF : P.funcs[f]? = some F) (hname : (F.name == "runtime.NumGoroutine") = false) (hb : F.body.isSome = true)
    (h : ∀ (a b : ByteArray) (w : World), Calls P f #[.string a, .string b] w fun e w' => e = .returned (.int .i64 (Lib.compareBytes a.data.toList b.data.toList)) ∧ w' = w) : RowOk P B f gCompare where
  next := fun args H out H' hg => by
    unfold gCompare at hg
    split at hg
    · have := ok1_nextG hg; subst this; exact Nat.le_refl _
    · cases hg
  does := fun args H out H' φ vs w hg hr hv _ _ => by
    unfold gCompare at hg
    split at hg
    · obtain ⟨rfl, rfl⟩ := ok1_inv hg
      obtain ⟨v, vs', rfl, hv1, hv2⟩ := hv.cons_inv
      obtain rfl := hv1.str_inv
      obtain ⟨v, vs', rfl, hv3, hv4⟩ := hv2.cons_inv
      obtain rfl := hv3.str_inv
      obtain rfl := hv4.nil_inv
      refine does_calls hF hname hb ((h _ _ w).mono ?_)
      rintro e w' ⟨rfl, rfl⟩
      exact Post.ok (Step.refl hr) (VR.int _ _)
    · cases hg

/-! ### strconv.Atoi -/

def gAtoi : List AV → AH → Option (Out × AH)
  | [.str s], H => match Lib.atoiAll s with
    | .ok n => if s.length ≤ 140737488355328 then ok1 H (.tup [.int .i64 n, .nili]) else none
    | _ => none
  | _, _ => none

theorem rowOk_atoi {f : FuncId} {F : Func} (hF : P.funcs[f]? = some F) (hname : (F.name == "runtime.NumGoroutine") = false) (hb : F.body.isSome = true)
    (h : ∀ (s : ByteArray) (_ : s.size ≤ 9223372036854775806) (v : Int) (_ : Lib.atoiAll s.data.toList = .ok v) (w : World), Calls P f #[.string s] w fun e w' => e = .returned (.tuple #[.int .i64 v, .nilIface]) ∧ Below w.heap.size w w') : RowOk P B f gAtoi where
  next := fun args H out H' hg => by
    unfold gAtoi at hg
    split at hg
    · split at hg
      · split at hg
        · have := ok1_nextG hg; subst this; exact Nat.le_refl _
        · cases hg
      · cases hg
    · cases hg
  does := fun args H out H' φ vs w hg hr hv _ _ => by
    unfold gAtoi at hg
    split at hg
    · rename_i s
      split at hg
      · rename_i n hn
        split at hg
        · rename_i hl
          obtain ⟨rfl, rfl⟩ := ok1_inv hg
          obtain ⟨v, vs', rfl, hv1, hv2⟩ := hv.cons_inv
          obtain rfl := hv1.str_inv
          obtain rfl := hv2.nil_inv
          refine does_calls hF hname hb ((h ⟨s.toArray⟩ (by show s.toArray.size ≤ _; simp; omega) n hn w).mono ?_)
          rintro e w' ⟨rfl, hbl⟩
          exact Post.ok (Step.grown hr hbl) (VRs.tup (.int _ _ (.nili .nil)) .nil)
        · cases hg
      · cases hg
    · cases hg

/-! ### strings.SplitN -/

def gSplitN (ty : TypeId) : List AV → AH → Option (Out × AH)
  | [.str s, .str sep, .int .i64 n], H =>
    if s.length < 4294967281 ∧ 1 ≤ sep.length ∧ 1 ≤ n ∧ n ≤ 9223372036854775807 ∧ (Lib.splitN s sep n.toNat).length = min n.toNat (s.length + 1) then
      some (.ok (.sl H.next 0 1 (Lib.splitN s sep n.toNat).length (some (Lib.splitN s sep n.toNat).length)), H.push ty false ((Lib.splitN s sep n.toNat).map .str))
    else none
  | _, _ => none

theorem rowOk_splitN {f : FuncId} {F : Func} {ty : TypeId} (hF : P.funcs[f]? = some F) (hname : (F.name == "runtime.NumGoroutine") = false) (hb : F.body.isSome = true) {g : Nat} (hK : ∀ w, B.K w → ∃ m, w.cell? ⟨g, 0, none⟩ = some (.int .i64 m))
    (h : ∀ (s sep : ByteArray) (n : Nat) (m : Int) (w : World) (_ : s.size < 4294967281) (_ : w.cell? ⟨g, 0, none⟩ = some (.int .i64 m)) (_ : 1 ≤ sep.size) (_ : 1 ≤ n) (_ : n ≤ 9223372036854775807),
      Calls P f #[.string s, .string sep, .int .i64 n] w fun e w' =>
        e = .returned (.slice (some ⟨w.heap.size, 0, none⟩) (Lib.splitB sep 0 (min n (s.size + 1) - 1) s).length (min n (s.size + 1))) ∧ w' = w.alloc (.cells (Lib.cellsOf (Lib.splitB sep 0 (min n (s.size + 1) - 1) s) (min n (s.size + 1))) ty)) : RowOk P B f (gSplitN ty) where
  next := fun args H out H' hg => by
    unfold gSplitN at hg
    split at hg
    · split at hg
      · simp only [Option.some.injEq, Prod.mk.injEq] at hg; obtain ⟨_, rfl⟩ := hg; exact Nat.le_succ _
      · cases hg
    · cases hg
  does := fun args H out H' φ vs w hg hr hv hgl hfree => by
    unfold gSplitN at hg
    split at hg
    · rename_i s sep n
      split at hg
      · rename_i hc
        obtain ⟨h1, h2, h3, h4, h5⟩ := hc
        simp only [Option.some.injEq, Prod.mk.injEq] at hg
        obtain ⟨rfl, rfl⟩ := hg
        obtain ⟨v, vs', rfl, hv1, hv2⟩ := hv.cons_inv
        obtain rfl := hv1.str_inv
        obtain ⟨v, vs', rfl, hv3, hv4⟩ := hv2.cons_inv
        obtain rfl := hv3.str_inv
        obtain ⟨v, vs', rfl, hv5, hv6⟩ := hv4.cons_inv
        obtain rfl := hv5.int_inv
        obtain rfl := hv6.nil_inv
        obtain ⟨m, hm⟩ := hK w hr.know.1.1
        have e1 : (⟨s.toArray⟩ : ByteArray).size = s.length := by show s.toArray.size = _; simp
        have e2 : (⟨sep.toArray⟩ : ByteArray).size = sep.length := by show sep.toArray.size = _; simp
        have hn : ((n.toNat : Nat) : Int) = n := by omega
        have hd := Lib.splitB_data ⟨sep.toArray⟩ 0 (min n.toNat (s.length + 1) - 1) ⟨s.toArray⟩
        have hps : (Lib.splitB ⟨sep.toArray⟩ 0 (min n.toNat (s.length + 1) - 1) ⟨s.toArray⟩).map (·.data.toList) = Lib.splitN s sep n.toNat := hd
        have hlen : (Lib.splitB ⟨sep.toArray⟩ 0 (min n.toNat (s.length + 1) - 1) ⟨s.toArray⟩).length = (Lib.splitN s sep n.toNat).length := by rw [← hps, List.length_map]
        have hcall := h ⟨s.toArray⟩ ⟨sep.toArray⟩ n.toNat m w (by rw [e1]; exact h1) hm (by rw [e2]; exact h2) (by omega) (by omega)
        rw [hn, e1, hlen, ← h5] at hcall
        refine does_calls hF hname hb (hcall.mono ?_)
        rintro e w' ⟨rfl, rfl⟩
        have hlen' : (Lib.splitB ⟨sep.toArray⟩ 0 ((Lib.splitN s sep n.toNat).length - 1) ⟨s.toArray⟩).length = (Lib.splitN s sep n.toNat).length := by rw [h5]; exact hlen.trans h5
        have hps' : (Lib.splitB ⟨sep.toArray⟩ 0 ((Lib.splitN s sep n.toNat).length - 1) ⟨s.toArray⟩).map (·.data.toList) = Lib.splitN s sep n.toNat := by rw [h5]; exact hps
        generalize Lib.splitB ⟨sep.toArray⟩ 0 ((Lib.splitN s sep n.toNat).length - 1) ⟨s.toArray⟩ = ps at hlen' hps' ⊢
        have hsz : (Lib.cellsOf ps (Lib.splitN s sep n.toNat).length).size = (Lib.splitN s sep n.toNat).length := Lib.cellsOf_size (by omega)
        have hst := Step.push hr ty false ((Lib.splitN s sep n.toNat).map .str) (Lib.cellsOf ps (Lib.splitN s sep n.toNat).length) (hfree H.next (Nat.le_refl _) (Nat.lt_succ_self _)) (fun j v hj => by
          rw [← hps'] at hj
          simp only [List.map_map, List.getElem?_map, Option.map_eq_some_iff, Function.comp_def] at hj
          obtain ⟨x, hx, rfl⟩ := hj
          refine ⟨.string x, ?_, ?_⟩
          · have hjl : j < ps.length := by
              by_cases hlt : j < ps.length
              · exact hlt
              · rw [List.getElem?_eq_none (by omega)] at hx; cases hx
            rw [List.getElem?_eq_getElem hjl, Option.some.injEq] at hx
            unfold Lib.cellsOf
            simp [List.getElem?_append, hjl, hx]
          · have := VR.str (φ := φ) x.data.toList
            have e : (⟨x.data.toList.toArray⟩ : ByteArray) = x := by cases x; simp
            rw [e] at this
            exact this) (by rw [hsz]; simp) (fun h => by cases h)
        refine Post.ok hst ?_
        refine VRs.sl (m := some (Lib.cellsOf ps (Lib.splitN s sep n.toNat).length).size) (s := 0) (p := w.heap.size) ?_ ?_ (Nat.le_refl _) (fun d hd => by simpa using hd) .nil
        · simp [Emb.upd]
        · intro r hr'; simp only [Option.some.injEq] at hr'; omega
      · cases hg
    · cases hg
end
end Go.Am
