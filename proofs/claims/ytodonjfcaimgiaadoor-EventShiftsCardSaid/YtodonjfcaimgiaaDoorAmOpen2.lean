/-
A list of events as an argument of a law. Conditions: it can be read.
-/
import Derived.Test.YtodonjfcaimgiaaDoorAmOpen
import Derived.Test.YtodonjfcaimgiaaDoorAmMg
set_option linter.unusedSimpArgs false
set_option linter.unusedVariables false
set_option maxRecDepth 100000
namespace Go.Proofs.YtodonjfcaimgiaaDoor
open Go.ChangeShapes Go.WideShapes Go.ChangeAt Go.RowKit Go.Am

theorem VRs.at {φ : Emb} {us : List AV} {vs : List Value} (h : VRs φ us vs) : ∀ (j : Nat) v, us[j]? = some v → ∃ v', vs[j]? = some v' ∧ VR φ v v' := by
  induction us generalizing vs with
  | nil => intro j v hj; simp at hj
  | cons u us ih =>
    obtain ⟨w, ws, rfl, h1, h2⟩ := h.cons_inv
    intro j v hj
    cases j with
    | zero => simp at hj; subst hj; exact ⟨w, rfl, h1⟩
    | succ j => exact ih h2 j v (by simpa using hj)

/-- What is ready when a law with one list begins. -/
def Ready1 (W : World) (av : AV) (v : Value) (l : List Ev) (φ : Emb) (H : AH) : Prop :=
  EvS H av l ∧ VR φ av v ∧ (∀ g, g < 8 → φ g = some (g, 0, none)) ∧ H.floor ≤ H.next ∧
  ∀ i b, H.get i = some b → i < H.next ∧ b.ro = true ∧ ∃ p s, φ i = some (p, s, none) ∧ p < W.heap.size ∧ ∀ (j : Nat) v, b.cells[j]? = some v → ∃ v', W.cell? ⟨p, s + j, none⟩ = some v' ∧ VR φ v v'

theorem Tryd.evs_arg {H : Type} {enc : TypeId × Value → H} {W : World} {base : Nat} {v : Value} {d : DataW H} {p : List MemPlace} (hv : Value.okWide Tryd.prog W .any base 28 v) (h : DataW.Trod enc Tryd.prog W 0 (fun _ => true) true 28 v d p) :
    ∃ l av φ H, Ready1 W av v l φ H := by
  obtain ⟨a, len, cap, rfl⟩ := okWide_slice Tryd.underlying28 hv
  obtain ⟨fuel, hf⟩ := h
  have hf' : DataW.trod enc Tryd.prog W 0 (fun _ => true) true fuel 28 [.slice a len cap] = some (d, p) := by simpa [Value.cells] using hf
  have hgl : ∀ g, g < 8 → glob 8 g = some (g, 0, none) := fun g hg => by simp [glob, hg]
  rcases DataW.trod_slice Tryd.underlying28 hf' with ⟨hcs, _⟩ | ⟨a', len', cap', elems, rest, n, _, hcs, _, _, hlc, _, hlen, hel, _⟩
  · simp at hcs
    obtain ⟨rfl, rfl, rfl⟩ := hcs
    exact ⟨[], .nils, glob 8, ⟨[], 8, 8⟩, SliceV.nil, VRs.nils .nil, hgl, Nat.le_refl _, fun i b h => by cases h⟩
  · simp at hcs
    obtain ⟨rfl, rfl, rfl⟩ := hcs
    cases len with
    | zero => exact ⟨[], .esl, glob 8, ⟨[], 8, 8⟩, SliceV.emp, VRs.esl a' cap .nil, hgl, Nat.le_refl _, fun i b h => by cases h⟩
    | succ m =>
      have hce : Tryd.prog.cellsOf 23 = 7 := by kernel_rfl
      have each : ∀ i, i < m + 1 → ∃ (x : Ev) (cs : List Value), W.cells? 0 (a'.add (i * 7)) 7 = some cs ∧ ∀ φ, VRs φ x.cells cs := fun i hi => by
        have h1 := hel i hi
        rw [hce] at h1
        have hil : i < elems.length := by omega
        rw [List.getElem?_eq_getElem hil] at h1
        obtain ⟨cs, h2, h3⟩ := Option.bind_eq_some_iff.1 h1
        obtain ⟨us, h4, h5⟩ := open_flat (ks := Tryd.evKinds) Tryd.underlying23 (by kernel_rfl) (by kernel_rfl) h3
        obtain ⟨x, rfl⟩ := Tryd.ev_shape h4
        exact ⟨x, cs, h2, h5⟩
      have hspot : a'.spot = none := by
        obtain ⟨x, cs, h1, h2⟩ := each 0 (by omega)
        obtain ⟨_, hl, hc⟩ := World.cells?_some h1
        have h3 := hc 0 (by omega)
        have h4 : cs[0]? = some cs[0] := List.getElem?_eq_getElem (by omega)
        rw [h4] at h3
        have e : (a'.add (0 * 7)).add 0 = a' := by simp [Addr.add]
        rw [e] at h3
        unfold World.cell? at h3
        split at h3
        · split at h3
          · cases h3
          · rename_i hs
            simpa using hs
        · cases h3
      obtain ⟨bk, off, sp⟩ := a'
      simp only at hspot
      subst hspot
      have hx : ∀ i, ∃ x : Ev, i < m + 1 → ∀ (j : Nat) v, x.cells[j]? = some v → ∃ v', W.cell? ⟨bk, off + (i * 7 + j), none⟩ = some v' ∧ ∀ φ, VR φ v v' := fun i => by
        by_cases hi : i < m + 1
        · obtain ⟨x, cs, h1, h2⟩ := each i hi
          refine ⟨x, fun _ j v hj => ?_⟩
          obtain ⟨_, hl, hc⟩ := World.cells?_some h1
          obtain ⟨v', h3, _⟩ := VRs.at (h2 (glob 8)) j v hj
          have hj7 : j < 7 := by
            by_cases hlt : j < 7
            · exact hlt
            · rw [List.getElem?_eq_none (by rw [Ev.cells_len]; omega)] at hj; cases hj
          have h4 := hc j hj7
          rw [add_eq, add_eq, h3] at h4
          refine ⟨v', by rw [← Nat.add_assoc]; exact h4, fun φ => ?_⟩
          obtain ⟨v'', h5, h6⟩ := VRs.at (h2 φ) j v hj
          rw [h3, Option.some.injEq] at h5
          subst h5
          exact h6
        · exact ⟨⟨0, 0, 0, 0, 0, [], 0⟩, fun h => absurd h hi⟩
      obtain ⟨f, hfx⟩ := Classical.axiomOfChoice hx
      have hll : ((List.range (m + 1)).map f).length = m + 1 := by simp
      have hrl := rowsOf_length Ev.cells_len ((List.range (m + 1)).map f)
      rw [hll] at hrl
      have cell : ∀ (k : Nat) v, (rowsOf Ev.cells ((List.range (m + 1)).map f))[k]? = some v → ∃ v', W.cell? ⟨bk, off + k, none⟩ = some v' ∧ ∀ φ, VR φ v v' := fun k v hk => by
        have hkl : k < (m + 1) * 7 := by
          by_cases hlt : k < (m + 1) * 7
          · exact hlt
          · rw [List.getElem?_eq_none (by omega)] at hk; cases hk
        have hi : k / 7 < m + 1 := by omega
        have hxi : ((List.range (m + 1)).map f)[k / 7]? = some (f (k / 7)) := by simp [hi]
        have e : 0 + k / 7 * 7 + k % 7 = k := by omega
        have h1 := rowsOf_cell Ev.cells_len hxi (show k % 7 < 7 by omega)
        rw [e, hk] at h1
        have h2 := hfx (k / 7) hi (k % 7) v h1.symm
        have e2 : k / 7 * 7 + k % 7 = k := by omega
        rw [e2] at h2
        exact h2
      have hbk : bk < W.heap.size := by
        have h1 : (rowsOf Ev.cells ((List.range (m + 1)).map f))[0]? = some (rowsOf Ev.cells ((List.range (m + 1)).map f))[0] := List.getElem?_eq_getElem (by omega)
        obtain ⟨v', h2, _⟩ := cell 0 _ h1
        unfold World.cell? at h2
        by_cases hb : bk < W.heap.size
        · exact hb
        · rw [Array.getElem?_eq_none (by show W.heap.size ≤ bk; omega)] at h2; cases h2
      refine ⟨(List.range (m + 1)).map f, .sl 8 0 7 (m + 1) none, fun i => if i = 8 then some (bk, off, none) else glob 8 i, ⟨[(8, ⟨rowsOf Ev.cells ((List.range (m + 1)).map f), true, 23, false, false⟩)], 9, 9⟩, ?_, ?_, ?_, Nat.le_refl _, ?_⟩
      · have := SliceV.sl (H := ⟨[(8, ⟨rowsOf Ev.cells ((List.range (m + 1)).map f), true, 23, false, false⟩)], 9, 9⟩) (z := 7) (i := 8) (o := 0) (n := m + 1) (c := none) (b := ⟨rowsOf Ev.cells ((List.range (m + 1)).map f), true, 23, false, false⟩) rfl (by show 0 + (m + 1) * 7 ≤ (rowsOf Ev.cells _).length; omega)
        rw [List.drop_zero, List.take_of_length_le (by show (rowsOf Ev.cells _).length ≤ _; omega)] at this
        unfold EvS
        rw [hll]
        exact this
      · refine VRs.sl (p := bk) (s := off) (m := none) (by simp) (fun r hr => by cases hr) hlc (fun d hd => by cases hd) .nil
      · intro g hg
        have : ¬ g = 8 := by omega
        simp [this, glob, hg]
      · intro i b hb
        simp only [AH.get, lk] at hb
        split at hb
        · rename_i hi
          obtain rfl := Option.some.inj hb
          refine ⟨by show i < 9; omega, rfl, bk, off, by simp [← hi], hbk, fun j v hj => ?_⟩
          obtain ⟨v', h1, h2⟩ := cell j v hj
          exact ⟨v', h1, h2 _⟩
        · cases hb

theorem Tryd.span_arg {H : Type} {enc : TypeId × Value → H} {W : World} {base : Nat} {v : Value} {d : DataW H} {p : List MemPlace} (hv : Value.okWide Tryd.prog W .any base 30 v) (h : DataW.Trod enc Tryd.prog W 0 (fun _ => true) true 30 v d p) :
    ∃ s0 s1 : Int, ∀ φ, VR φ (.agg [.int .i64 s0, .int .i64 s1]) v := by
  obtain ⟨us, h1, h2⟩ := open_arg (ks := [.int .i64, .int .i64]) Tryd.underlying30 (by kernel_rfl) (by kernel_rfl) hv h
  obtain ⟨a0, a1, rfl⟩ : ∃ a0 a1, us = [a0, a1] := by
    have hl := h1.length
    match us, hl with
    | [a0, a1], _ => exact ⟨a0, a1, rfl⟩
  cases a0 <;> first | exact h1.elim | skip
  cases a1 <;> first | exact h1.2.2.elim | skip
  obtain ⟨rfl, _, rfl, _, _⟩ := h1
  exact ⟨_, _, h2⟩

def Tryd.spanZero : Value := .agg #[.int .i64 0, .int .i64 0]
def Tryd.spanData {H : Type} : DataW H := .agg [.lit (.int .i64 0), .lit (.int .i64 0)]

end Go.Proofs.YtodonjfcaimgiaaDoor
