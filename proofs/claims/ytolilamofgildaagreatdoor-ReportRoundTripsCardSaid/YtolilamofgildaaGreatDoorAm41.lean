/-
Rows of the library: strconv.Atoi at numbers out of range, strings.SplitN of any string. Conditions: the contracts that each theorem names.
-/
import Derived.Test.YtolilamofgildaaGreatDoorAm37
import Derived.Lib.LaidU8
set_option linter.unusedSimpArgs false
set_option linter.unusedVariables false
namespace Go.Am
open Go.RowKit

/-- A variable that reads as an interface value holds one. -/
theorem iface_cell {P : Program} {w : World} {name s : String} {d : DataW Unit} {g : Nat} {t : TypeId} (hg : P.globalNamed name = some g) (hty : (P.globals[g]?).map (·.type) = some t) (ht : ∃ ms, P.underlying t = some (.interface ms))
    (h : Lib.VarReads P w name (.iface s d)) : ∃ ev, w.cell? ⟨g, 0, none⟩ = some ev ∧ (ev = .nilIface ∨ ∃ te pe, ev = .iface te pe) := by
  obtain ⟨g', t', cs, fuel, p, hg', ht', hvar, hd⟩ := h
  obtain rfl := Option.some.inj (hg.symm.trans hg')
  obtain rfl := Option.some.inj (hty.symm.trans ht')
  obtain ⟨ms, ht⟩ := ht
  have hcell : ∀ x, cs.toList = [x] → w.cell? ⟨g, 0, none⟩ = some x := fun x hx => by
    unfold World.var? at hvar
    rw [hg] at hvar
    simp only [Option.bind_some] at hvar
    split at hvar
    · rename_i cs' a b hh
      rw [Option.some.injEq] at hvar
      subst hvar
      have : cs' = #[x] := by cases cs'; simp_all
      subst this
      simp [World.cell?, hh]
    · cases hvar
  cases fuel with
  | zero => cases hd
  | succ n =>
    unfold DataW.trod at hd
    rw [ht] at hd
    match hcs : cs.toList, hd with
    | [.nilIface], _ => exact ⟨_, hcell _ hcs, .inl rfl⟩
    | [.iface u v], _ => exact ⟨_, hcell _ hcs, .inr ⟨u, v, rfl⟩⟩

section
variable {P : Program} {B : Base}

/-- strconv.Atoi, but of what is no number; tE: the type of its error. -/
def gAtoi2 (tE : TypeId) : List AV → AH → Option (Out × AH)
  | [.str s], H => match Lib.atoiAll s with
    | .ok n => if s.length ≤ 140737488355328 then ok1 H (.tup [.int .i64 n, .nili]) else none
    | .range => if s.length ≤ 140737488355328 then ok1 H (.tup [.int .i64 (Lib.atoiSat s), .iface tE .undef]) else none
    | _ => none
  | _, _ => none

theorem rowOk_atoi2 {f : FuncId} {F : Func} {tE : TypeId} {g : Nat} (hF : P.funcs[f]? = some F) (hname : (F.name == "runtime.NumGoroutine") = false) (hb : F.body.isSome = true)
    (hE : ∀ w, B.K w → ∃ ev, w.cell? ⟨g, 0, none⟩ = some ev ∧ (ev = .nilIface ∨ ∃ te pe, ev = .iface te pe))
    (h : ∀ (s : ByteArray) (_ : s.size ≤ 9223372036854775806) (v : Int) (_ : Lib.atoiAll s.data.toList = .ok v) (w : World), Calls P f #[.string s] w fun e w' => e = .returned (.tuple #[.int .i64 v, .nilIface]) ∧ Below w.heap.size w w')
    (hr' : ∀ (s : ByteArray) (_ : s.size ≤ 281474976710656) (_ : Lib.atoiAll s.data.toList = .range) (ev : Value) (w : World) (_ : w.cell? ⟨g, 0, none⟩ = some ev) (_ : ev = .nilIface ∨ ∃ te pe, ev = .iface te pe),
      Calls P f #[.string s] w fun e w' => ∃ v, e = .returned (.tuple #[.int .i64 (Lib.atoiSat s.data.toList), .iface tE v]) ∧ Below w.heap.size w w') : RowOk P B f (gAtoi2 tE) where
  next := fun args H out H' hg => by
    unfold gAtoi2 at hg
    split at hg
    · split at hg
      · split at hg
        · have := ok1_nextG hg; subst this; exact Nat.le_refl _
        · cases hg
      · split at hg
        · have := ok1_nextG hg; subst this; exact Nat.le_refl _
        · cases hg
      · cases hg
    · cases hg
  does := fun args H out H' φ vs w hg hr hv _ _ => by
    unfold gAtoi2 at hg
    split at hg
    · rename_i s
      split at hg
      · rename_i n hn
        split at hg
        · rename_i hl
          obtain ⟨rfl, rfl⟩ := ok1_inv hg
          obtain ⟨v, vs', rfl, hv1, hv2⟩ := hv.cons_inv
          obtain rfl := hv1.str_inv
          obtain rfl := hv2.nil_inv
          refine does_calls hF hname hb ((h ⟨s.toArray⟩ (by show s.toArray.size ≤ _; simp; omega) n hn w).mono ?_)
          rintro e w' ⟨rfl, hbl⟩
          exact Post.ok (Step.grown hr hbl) (VRs.tup (.int _ _ (.nili .nil)) .nil)
        · cases hg
      · rename_i hn
        split at hg
        · rename_i hl
          obtain ⟨rfl, rfl⟩ := ok1_inv hg
          obtain ⟨v, vs', rfl, hv1, hv2⟩ := hv.cons_inv
          obtain rfl := hv1.str_inv
          obtain rfl := hv2.nil_inv
          obtain ⟨ev, hev1, hev2⟩ := hE w hr.know.1.1
          refine does_calls hF hname hb ((hr' ⟨s.toArray⟩ (by show s.toArray.size ≤ _; simp; omega) hn ev w hev1 hev2).mono ?_)
          rintro e w' ⟨v, rfl, hbl⟩
          exact Post.ok (Step.grown hr hbl) (VRs.tup (.int _ _ (.iface tE (.undef v .nil) .nil)) .nil)
        · cases hg
      · cases hg
    · cases hg

/-- The cells that SplitN leaves: the pieces, and empty strings. -/
def splitCells (s sep : List UInt8) (n : Nat) : List AV := (Lib.splitN s sep n).map .str ++ List.replicate (min n (s.length + 1) - (Lib.splitN s sep n).length) (.str [])

def gSplitN2 (ty : TypeId) : List AV → AH → Option (Out × AH)
  | [.str s, .str sep, .int .i64 n], H =>
    if s.length < 4294967281 ∧ 1 ≤ sep.length ∧ 1 ≤ n ∧ n ≤ 9223372036854775807 ∧ (Lib.splitN s sep n.toNat).length ≤ min n.toNat (s.length + 1) then
      some (.ok (.sl H.next 0 1 (Lib.splitN s sep n.toNat).length (some (min n.toNat (s.length + 1)))), H.push ty false (splitCells s sep n.toNat))
    else none
  | _, _ => none

theorem rowOk_splitN2 {f : FuncId} {F : Func} {ty : TypeId} (hF : P.funcs[f]? = some F) (hname : (F.name == "runtime.NumGoroutine") = false) (hb : F.body.isSome = true) {g : Nat} (hK : ∀ w, B.K w → ∃ m, w.cell? ⟨g, 0, none⟩ = some (.int .i64 m))
    (h : ∀ (s sep : ByteArray) (n : Nat) (m : Int) (w : World) (_ : s.size < 4294967281) (_ : w.cell? ⟨g, 0, none⟩ = some (.int .i64 m)) (_ : 1 ≤ sep.size) (_ : 1 ≤ n) (_ : n ≤ 9223372036854775807),
      Calls P f #[.string s, .string sep, .int .i64 n] w fun e w' =>
        e = .returned (.slice (some ⟨w.heap.size, 0, none⟩) (Lib.splitB sep 0 (min n (s.size + 1) - 1) s).length (min n (s.size + 1))) ∧ w' = w.alloc (.cells (Lib.cellsOf (Lib.splitB sep 0 (min n (s.size + 1) - 1) s) (min n (s.size + 1))) ty)) : RowOk P B f (gSplitN2 ty) where
  next := fun args H out H' hg => by
    unfold gSplitN2 at hg
    split at hg
    · split at hg
      · simp only [Option.some.injEq, Prod.mk.injEq] at hg; obtain ⟨_, rfl⟩ := hg; exact Nat.le_succ _
      · cases hg
    · cases hg
  does := fun args H out H' φ vs w hg hr hv hgl hfree => by
    unfold gSplitN2 at hg
    split at hg
    · rename_i s sep n
      split at hg
      · rename_i hc
        obtain ⟨h1, h2, h3, h4, h5⟩ := hc
        simp only [Option.some.injEq, Prod.mk.injEq] at hg
        obtain ⟨rfl, rfl⟩ := hg
        obtain ⟨v, vs', rfl, hv1, hv2⟩ := hv.cons_inv
        obtain rfl := hv1.str_inv
        obtain ⟨v, vs', rfl, hv3, hv4⟩ := hv2.cons_inv
        obtain rfl := hv3.str_inv
        obtain ⟨v, vs', rfl, hv5, hv6⟩ := hv4.cons_inv
        obtain rfl := hv5.int_inv
        obtain rfl := hv6.nil_inv
        obtain ⟨m, hm⟩ := hK w hr.know.1.1
        have e1 : (⟨s.toArray⟩ : ByteArray).size = s.length := by show s.toArray.size = _; simp
        have e2 : (⟨sep.toArray⟩ : ByteArray).size = sep.length := by show sep.toArray.size = _; simp
        have hn : ((n.toNat : Nat) : Int) = n := by omega
        have hd := Lib.splitB_data ⟨sep.toArray⟩ 0 (min n.toNat (s.length + 1) - 1) ⟨s.toArray⟩
        have hps : (Lib.splitB ⟨sep.toArray⟩ 0 (min n.toNat (s.length + 1) - 1) ⟨s.toArray⟩).map (·.data.toList) = Lib.splitN s sep n.toNat := hd
        have hlen : (Lib.splitB ⟨sep.toArray⟩ 0 (min n.toNat (s.length + 1) - 1) ⟨s.toArray⟩).length = (Lib.splitN s sep n.toNat).length := by rw [← hps, List.length_map]
        have hcall := h ⟨s.toArray⟩ ⟨sep.toArray⟩ n.toNat m w (by rw [e1]; exact h1) hm (by rw [e2]; exact h2) (by omega) (by omega)
        rw [hn, e1, hlen] at hcall
        refine does_calls hF hname hb (hcall.mono ?_)
        rintro e w' ⟨rfl, rfl⟩
        unfold splitCells
        generalize hN : min n.toNat (s.length + 1) = N at *
        generalize Lib.splitB ⟨sep.toArray⟩ 0 (N - 1) ⟨s.toArray⟩ = ps at hps hlen ⊢
        have hsz : (Lib.cellsOf ps N).size = N := Lib.cellsOf_size (by omega)
        have hst := Step.push hr ty false ((Lib.splitN s sep n.toNat).map .str ++ List.replicate (N - (Lib.splitN s sep n.toNat).length) (.str [])) (Lib.cellsOf ps N) (hfree H.next (Nat.le_refl _) (Nat.lt_succ_self _)) (fun j v hj => by
          by_cases hjl : j < ps.length
          · rw [List.getElem?_append_left (by rw [List.length_map]; omega), ← hps] at hj
            simp only [List.map_map, List.getElem?_map, Option.map_eq_some_iff, Function.comp_def] at hj
            obtain ⟨x, hx, rfl⟩ := hj
            refine ⟨.string x, ?_, ?_⟩
            · rw [List.getElem?_eq_getElem hjl, Option.some.injEq] at hx
              unfold Lib.cellsOf
              simp [List.getElem?_append, hjl, hx]
            · have := VR.str (φ := φ) x.data.toList
              have e : (⟨x.data.toList.toArray⟩ : ByteArray) = x := by cases x; simp
              rw [e] at this
              exact this
          · rw [List.getElem?_append_right (by rw [List.length_map]; omega), List.getElem?_replicate] at hj
            split at hj
            · rename_i hlt
              rw [Option.some.injEq] at hj
              subst hj
              refine ⟨.string ByteArray.empty, ?_, VR.str []⟩
              rw [List.length_map] at hlt
              unfold Lib.cellsOf
              rw [List.getElem?_toArray, List.getElem?_append_right (by rw [List.length_map]; omega), List.getElem?_replicate, List.length_map, if_pos (by omega)]
            · cases hj) (by rw [hsz]; simp; omega) (fun h => by cases h)
        refine Post.ok hst ?_
        refine VRs.sl (m := some (Lib.cellsOf ps N).size) (s := 0) (p := w.heap.size) ?_ ?_ (by omega) (fun d hd => by simpa using hd) .nil
        · simp [Emb.upd]
        · intro r hr'; simp only [Option.some.injEq] at hr'; omega
      · cases hg
    · cases hg
end
end Go.Am
