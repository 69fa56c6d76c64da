/-
Each operation of the model does what the abstract machine's does: appends, copies, new slices, conversions between strings and bytes, the Builder's own words. Conditions: the heap stands to the world, the temporaries to the values.
-/
import Derived.Test.YtjpppajbhpbkiaaDoorAm8
import Derived.Lib.ConvBytes
import Derived.Lib.UnsafeStr
import Derived.Lib.Builder
import Derived.Laws.IdiomStrings
set_option linter.unusedSimpArgs false
set_option linter.unusedVariables false
namespace Go.Am
open Go.RowKit

section
variable {P : Program} {B : Base} {φ : Emb} {H H' : AH} {w : World} {a : Act} {e : Env} {o : Oper} {call : Call} {out : Out}

theorem byOf_ok {t : TypeId} {n : Nat} (h : byOf P t = some n) : ∃ i, P.info? t = some i ∧ i.bytes = n := by
  unfold byOf at h
  cases hi : P.info? t with
  | none => simp [hi] at h
  | some i => simp [hi] at h; exact ⟨i, rfl, h⟩

theorem zOf_info {t : TypeId} {z : List AV} (h : zOf P t = some z) : ∃ i v, P.info? t = some i ∧ i.zero = some v ∧ VRs φ z v.cells.toList := by
  unfold zOf at h
  split at h
  · rename_i v hv
    cases hi : P.info? t with
    | none => simp [hi] at hv
    | some i => simp [hi] at hv; exact ⟨i, v, rfl, hv, ofVs_ok h⟩
  · simp at h

theorem szOf_info {t : TypeId} {n : Nat} {i} (h : szOf P t = some n) (hi : P.info? t = some i) : i.size = n := by simpa [szOf, hi] using h
theorem byOf_info {t : TypeId} {n : Nat} {i} (h : byOf P t = some n) (hi : P.info? t = some i) : i.bytes = n := by simpa [byOf, hi] using h

/-- What 'append' leaves where it makes a new row. -/
theorem grow_ok {t u ty : TypeId} {z bytes : Nat} {el : TypeId} (hu : P.underlying t = some (.slice el)) {ud : TypeDesc} (hu2 : P.underlying u = some ud) (hud : ud = .string ∨ ∃ e, ud = .slice e) (hsz : szOf P el = some z) (hby : byOf P el = some bytes) {zl : List AV} (hzero : zOf P el = some zl) (hzl : zl.length = z)
    {base : Option Addr} {n cc k : Nat} {x : Value} {ods nds : List Value} (hcc : cc < n + k) (hb : (n + k) * (bytes + 1) ≤ 140737488355328)
    (hlen : (Builtin.lenOf x).run P w = .ok k w) (hold : (Builtin.firstCells z n (.slice base n cc)).run P w.drew = .ok ods.toArray w.drew) (hnew : (Builtin.firstCells z k x).run P w.drew = .ok nds.toArray w.drew) :
    ∃ c rest, n + k ≤ c ∧ rest.length = (c - (n + k)) * z ∧ (Builtin.append_ #[t, u] ty #[.slice base n cc, x]).run P w = .ok (.slice (some ⟨w.heap.size, 0, none⟩) (n + k) c) (w.drew.alloc (.cells (ods ++ nds ++ rest).toArray el)) := by
  obtain ⟨i, zv, hi, hiz, hz2⟩ := zOf_info (φ := fun _ => none) hzero
  have hzs : zv.cells.size = z := by have := hz2.length; simp at this; omega
  have hs := szOf_info hsz hi
  have hib := byOf_info hby hi
  have hb' : (n + k) * bytes + (n + k) ≤ 140737488355328 := by rw [Nat.mul_add, Nat.mul_one] at hb; exact hb
  have hfit := growslice_fits (bytes := bytes) hcc (by omega)
  have hc : n + k ≤ grownCap w (n + k) cc el := by show n + k ≤ n + k + _; omega
  refine ⟨grownCap w (n + k) cc el, (Builtin.zeroCells zv.cells (grownCap w (n + k) cc el - (n + k))).toList, hc, by simp [Builtin.zeroCells, hzs], ?_⟩
  have hn : ¬ (n + k ≤ cc) := by omega
  have h63' : ¬ (9223372036854775807 < ((n : Int) + (k : Int))) := by omega
  have h48' : ¬ (281474976710656 < Builtin.nextslicecap (n + k) cc * bytes) := by omega
  rcases hud with rfl | ⟨e2, rfl⟩
  · simp [Builtin.append_, run_underlying hu, run_underlying hu2, sizeOf, typeInfo, zeroValue, hi, hiz, hs, hib, hlen, hn, h63', h48', Question.forced, hold, hnew, newRow, grownCap]
    congr 2
    apply Array.ext'
    simp [List.append_assoc]
  · simp [Builtin.append_, run_underlying hu, run_underlying hu2, sizeOf, typeInfo, zeroValue, hi, hiz, hs, hib, hlen, hn, h63', h48', Question.forced, hold, hnew, newRow, grownCap]
    congr 2
    apply Array.ext'
    simp [List.append_assoc]

/-- What 'append' leaves where there is room. -/
theorem fit_ok {t u ty : TypeId} {z : Nat} {el : TypeId} (hu : P.underlying t = some (.slice el)) {ud : TypeDesc} (hu2 : P.underlying u = some ud) (hud : ud = .string ∨ ∃ e, ud = .slice e) (hsz : szOf P el = some z)
    {base : Option Addr} {n cc k : Nat} {x : Value} {nds : List Value} (hcc : n + k ≤ cc)
    (hlen : (Builtin.lenOf x).run P w = .ok k w) (hnew : (Builtin.firstCells z k x).run P w = .ok nds.toArray w) {w' : World} (hst : ∀ a, base = some a → (storeCells (a.add (n * z)) nds).run P w = .ok () w') (hno : base = none → w' = w) :
    (Builtin.append_ #[t, u] ty #[.slice base n cc, x]).run P w = .ok (.slice base (n + k) cc) w' := by
  have hs := run_sizeOf' hsz
  rcases hud with rfl | ⟨e2, rfl⟩ <;> cases base with
  | none => simp [Builtin.append_, run_underlying hu, run_underlying hu2, hs, hlen, hcc, hnew, hno]
  | some a => simp [Builtin.append_, run_underlying hu, run_underlying hu2, hs, hlen, hcc, hnew, hst a rfl]

end
end Go.Am
