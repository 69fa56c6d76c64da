/-
Lists of rows as arguments of a law. Conditions: they can be read.
-/
import Derived.Test.YtjpppajbhpbkiaaDoorMc
import Derived.Test.YtjpppajbhpbkiaaDoorAm35
import Derived.Deep.DeepHandedRow
set_option linter.unusedSimpArgs false
set_option linter.unusedVariables false
set_option maxRecDepth 100000
namespace Go.Am
open Go.ChangeShapes Go.WideShapes Go.ChangeAt Go.RowKit

theorem VRs.at {φ : Emb} {us : List AV} {vs : List Value} (h : VRs φ us vs) : ∀ (j : Nat) v, us[j]? = some v → ∃ v', vs[j]? = some v' ∧ VR φ v v' := by
  induction us generalizing vs with
  | nil => intro j v hj; simp at hj
  | cons u us ih =>
    obtain ⟨w, ws, rfl, h1, h2⟩ := h.cons_inv
    intro j v hj
    cases j with
    | zero => simp at hj; subst hj; exact ⟨w, rfl, h1⟩
    | succ j => exact ih h2 j v (by simpa using hj)

/-- A cell of a slice of rows. -/
theorem cell_rowO {α : Type} {f : α → List AV} {m : Nat} (hf : ∀ x, (f x).length = m) {o : Nat} {b : Blk} {l : List α} {i j : Nat} {x : α} (hc : (b.cells.drop o).take (l.length * m) = rowsOf f l) (h : l[i]? = some x) (hj : j < m) : b.cells[o + i * m + j]? = (f x)[j]? := by
  have hi : i < l.length := by
    by_cases hlt : i < l.length
    · exact hlt
    · rw [List.getElem?_eq_none (by omega)] at h; cases h
  have h2 : i * m + m ≤ l.length * m := by
    have := Nat.mul_le_mul_right m (show i + 1 ≤ l.length by omega)
    rw [Nat.add_mul, Nat.one_mul] at this
    exact this
  have h3 := rowsOf_cell hf h hj
  rw [← hc, List.getElem?_take, if_pos (by omega), List.getElem?_drop] at h3
  rw [← h3]
  congr 1
  omega

/-- What a slice of rows as an argument is. -/
inductive ArgS {α : Type} (W : World) (cells : α → List AV) (m : Nat) (v : Value) : List α → Prop
  | nil : (∀ φ, VR φ .nils v) → ArgS W cells m v []
  | emp : (∀ φ, VR φ .esl v) → ArgS W cells m v []
  | sl (l : List α) (p s : Nat) : p < W.heap.size → (∀ φ k, φ k = some (p, s, none) → VR φ (.sl k 0 m l.length none) v) →
      (∀ (j : Nat) u, (rowsOf cells l)[j]? = some u → ∃ v', W.cell? ⟨p, s + j, none⟩ = some v' ∧ ∀ φ, VR φ u v') → ArgS W cells m v l

theorem slice_arg {P : Program} {α : Type} {cells : α → List AV} {m : Nat} {tS tE : TypeId} {fs : Array Field} {ks : List FK} (uS : P.underlying tS = some (.slice tE)) (uE : P.underlying tE = some (.struct fs)) (hfs : fieldsB P fs.toList ks 0 = true) (hC : P.cellsOf tE = ks.length) (hk : ks.length = m) (hm : 0 < m)
    (hlen : ∀ x, (cells x).length = m) (shape : ∀ us, Shape ks us → ∃ x, us = cells x) (dflt : α)
    {H : Type} {enc : TypeId × Value → H} {W : World} {a : Option Addr} {len cap : Nat} {x : DataW H × List MemPlace} {fuel : Nat} (hf : DataW.trod enc P W 0 (fun _ => true) true fuel tS [.slice a len cap] = some x) : ∃ l, ArgS W cells m (.slice a len cap) l := by
  rcases DataW.trod_slice uS hf with ⟨hcs, _⟩ | ⟨a', len', cap', elems, rest, n, _, hcs, _, _, hlc, _, hlen', hel, _⟩
  · simp at hcs
    obtain ⟨rfl, rfl, rfl⟩ := hcs
    exact ⟨[], .nil fun φ => VRs.nils .nil⟩
  · simp at hcs
    obtain ⟨rfl, rfl, rfl⟩ := hcs
    cases len with
    | zero => exact ⟨[], .emp fun φ => VRs.esl a' cap .nil⟩
    | succ k =>
      have hce : P.cellsOf tE = m := hC.trans hk
      have each : ∀ i, i < k + 1 → ∃ (x : α) (cs : List Value), W.cells? 0 (a'.add (i * m)) m = some cs ∧ ∀ φ, VRs φ (cells x) cs := fun i hi => by
        have h1 := hel i hi
        rw [hce] at h1
        have hil : i < elems.length := by omega
        rw [List.getElem?_eq_getElem hil] at h1
        obtain ⟨cs, h2, h3⟩ := Option.bind_eq_some_iff.1 h1
        obtain ⟨us, h4, h5⟩ := open_flat (ks := ks) uE hfs hC h3
        obtain ⟨x, rfl⟩ := shape us h4
        exact ⟨x, cs, h2, h5⟩
      have hspot : a'.spot = none := by
        obtain ⟨x, cs, h1, h2⟩ := each 0 (by omega)
        obtain ⟨_, hl, hc⟩ := World.cells?_some h1
        have h3 := hc 0 (by omega)
        have h4 : cs[0]? = some cs[0] := List.getElem?_eq_getElem (by omega)
        rw [h4] at h3
        have e : (a'.add (0 * m)).add 0 = a' := by simp [Addr.add]
        rw [e] at h3
        unfold World.cell? at h3
        split at h3
        · split at h3
          · cases h3
          · rename_i hs
            simpa using hs
        · cases h3
      obtain ⟨bk, off, sp⟩ := a'
      simp only at hspot
      subst hspot
      have hx : ∀ i, ∃ x : α, i < k + 1 → ∀ (j : Nat) v, (cells x)[j]? = some v → ∃ v', W.cell? ⟨bk, off + (i * m + j), none⟩ = some v' ∧ ∀ φ, VR φ v v' := fun i => by
        by_cases hi : i < k + 1
        · obtain ⟨x, cs, h1, h2⟩ := each i hi
          refine ⟨x, fun _ j v hj => ?_⟩
          obtain ⟨_, hl, hc⟩ := World.cells?_some h1
          obtain ⟨v', h3, _⟩ := VRs.at (h2 (fun _ => none)) j v hj
          have hj7 : j < m := by
            by_cases hlt : j < m
            · exact hlt
            · rw [List.getElem?_eq_none (by rw [hlen]; omega)] at hj; cases hj
          have h4 := hc j hj7
          rw [add_eq, add_eq, h3] at h4
          refine ⟨v', by rw [← Nat.add_assoc]; exact h4, fun φ => ?_⟩
          obtain ⟨v'', h5, h6⟩ := VRs.at (h2 φ) j v hj
          rw [h3, Option.some.injEq] at h5
          subst h5
          exact h6
        · exact ⟨dflt, fun h => absurd h hi⟩
      obtain ⟨f, hfx⟩ := Classical.axiomOfChoice hx
      have hll : ((List.range (k + 1)).map f).length = k + 1 := by simp
      have hrl := rowsOf_length hlen ((List.range (k + 1)).map f)
      rw [hll] at hrl
      have cell : ∀ (j : Nat) v, (rowsOf cells ((List.range (k + 1)).map f))[j]? = some v → ∃ v', W.cell? ⟨bk, off + j, none⟩ = some v' ∧ ∀ φ, VR φ v v' := fun j v hk => by
        have hkl : j < (k + 1) * m := by
          by_cases hlt : j < (k + 1) * m
          · exact hlt
          · rw [List.getElem?_eq_none (by omega)] at hk; cases hk
        have hi : j / m < k + 1 := (Nat.div_lt_iff_lt_mul hm).2 hkl
        have hxi : ((List.range (k + 1)).map f)[j / m]? = some (f (j / m)) := by simp [hi]
        have e : j / m * m + j % m = j := by rw [Nat.mul_comm]; exact Nat.div_add_mod j m
        have h1 := rowsOf_cell hlen hxi (Nat.mod_lt j hm)
        rw [Nat.zero_add, e, hk] at h1
        have h2 := hfx (j / m) hi (j % m) v h1.symm
        rw [e] at h2
        exact h2
      have hbk : bk < W.heap.size := by
        have hpos : 0 < (rowsOf cells ((List.range (k + 1)).map f)).length := by rw [hrl]; exact Nat.mul_pos (Nat.succ_pos _) hm
        have h1 := List.getElem?_eq_getElem hpos
        obtain ⟨v', h2, _⟩ := cell 0 _ h1
        unfold World.cell? at h2
        by_cases hb : bk < W.heap.size
        · exact hb
        · rw [Array.getElem?_eq_none (by show W.heap.size ≤ bk; omega)] at h2; cases h2
      refine ⟨(List.range (k + 1)).map f, .sl _ bk off hbk (fun φ q hq => ?_) cell⟩
      rw [hll]
      exact VRs.sl (p := bk) (s := off) (m := none) hq (fun r hr => by cases hr) hlc (fun d hd => by cases hd) .nil

/-- What is ready when a law with lists begins. -/
structure Rdy (G : Nat) (W : World) (φ : Emb) (H : AH) : Prop where
  globs : ∀ g, g < G → φ g = some (g, 0, none)
  free : ∀ i, H.next ≤ i → φ i = none
  low : G ≤ H.next
  floor : H.floor ≤ H.next
  blk : ∀ i b, H.get i = some b → i < H.next ∧ b.ro = true ∧ ∃ p s, φ i = some (p, s, none) ∧ p < W.heap.size ∧ ∀ (j : Nat) v, b.cells[j]? = some v → ∃ v', W.cell? ⟨p, s + j, none⟩ = some v' ∧ VR φ v v'

theorem Rdy.start (G : Nat) (W : World) : Rdy G W (glob G) ⟨[], G, G⟩ where
  globs := fun g hg => by simp [glob, hg]
  free := fun i (hi : G ≤ i) => by simp [glob, Nat.not_lt.2 hi]
  low := Nat.le_refl _
  floor := Nat.le_refl _
  blk := fun i b h => by cases h

theorem Rdy.slice {G : Nat} {W : World} {φ : Emb} {H : AH} (h : Rdy G W φ H) (ty : TypeId) {α : Type} {cells : α → List AV} {m : Nat} (hm : ∀ x, (cells x).length = m) {v : Value} {l : List α} (a : ArgS W cells m v l) :
    ∃ av ψ H', Rdy G W ψ H' ∧ VR ψ av v ∧ SliceV H' m av l.length (rowsOf cells l) ∧ φ.le ψ ∧ (∀ {z u n cs}, SliceV H z u n cs → SliceV H' z u n cs) ∧ (H.floor = H.next → H'.floor = H'.next) ∧ (∀ i o z n c, av = .sl i o z n c → i < H'.next) ∧ H.next ≤ H'.next ∧ (Names H → Names H') := by
  cases a with
  | nil hv => exact ⟨.nils, φ, H, h, hv φ, .nil, Emb.le_refl _, fun x => x, fun x => x, fun _ _ _ _ _ e => (by cases e), Nat.le_refl _, fun x => x⟩
  | emp hv => exact ⟨.esl, φ, H, h, hv φ, .emp, Emb.le_refl _, fun x => x, fun x => x, fun _ _ _ _ _ e => (by cases e), Nat.le_refl _, fun x => x⟩
  | sl _ p s hp hv hc =>
    have hle : φ.le (fun i => if i = H.next then some (p, s, none) else φ i) := fun i x hx => by
      by_cases hi : i = H.next
      · subst hi; rw [h.free _ (Nat.le_refl _)] at hx; cases hx
      · simp [hi, hx]
    refine ⟨.sl H.next 0 m l.length none, fun i => if i = H.next then some (p, s, none) else φ i, ⟨(H.next, ⟨rowsOf cells l, true, ty, false, false⟩) :: H.blks, H.next + 1, H.next + 1⟩, ⟨fun g hg => ?_, fun i hi => ?_, Nat.le_succ_of_le h.low, Nat.le_refl _, fun i b hb => ?_⟩, hv _ _ (by simp), ?_, hle, fun {z u n cs} hs => ?_, fun _ => rfl, fun i o z n c e => (by cases e; exact Nat.lt_succ_self _), Nat.le_succ _, fun hN x hx => ?_⟩
    · have : ¬ g = H.next := by have := h.low; omega
      simp [this, h.globs g hg]
    · have hi' : H.next + 1 ≤ i := hi
      have : ¬ i = H.next := by omega
      simp [this, h.free i (by omega)]
    · simp only [AH.get, lk] at hb
      split at hb
      · rename_i hi
        obtain rfl := Option.some.inj hb
        subst hi
        refine ⟨Nat.lt_succ_self _, rfl, p, s, by simp, hp, fun j v hj => ?_⟩
        obtain ⟨v', h1, h2⟩ := hc j v hj
        exact ⟨v', h1, h2 _⟩
      · rename_i hi
        obtain ⟨h1, h2, p', s', h3, h4, h5⟩ := h.blk i b hb
        refine ⟨Nat.lt_succ_of_lt h1, h2, p', s', hle _ _ h3, h4, fun j v hj => ?_⟩
        obtain ⟨v', h6, h7⟩ := h5 j v hj
        exact ⟨v', h6, h7.mono hle⟩
    · have hrl := rowsOf_length hm l
      have := SliceV.sl (H := ⟨(H.next, ⟨rowsOf cells l, true, ty, false, false⟩) :: H.blks, H.next + 1, H.next + 1⟩) (z := m) (i := H.next) (o := 0) (n := l.length) (c := none) (b := ⟨rowsOf cells l, true, ty, false, false⟩) (by simp [AH.get, lk]) (by show 0 + l.length * m ≤ (rowsOf cells l).length; omega)
      rw [List.drop_zero, List.take_of_length_le (by show (rowsOf cells l).length ≤ _; omega)] at this
      exact this
    · rcases hs.cases with ⟨rfl, h1, h2⟩ | ⟨rfl, h1, h2⟩ | ⟨i, o, c, b, rfl, hb, hl, hcs⟩
      · rw [h1, h2]; exact .nil
      · rw [h1, h2]; exact .emp
      · rw [← hcs]
        have hi := (h.blk i b hb).1
        refine SliceV.sl ?_ hl
        simp only [AH.get, lk]
        rw [if_neg (by omega)]
        exact hb
    · show x.1 < H.next + 1
      rcases List.mem_cons.1 hx with rfl | hx
      · exact Nat.lt_succ_self _
      · have := hN x hx; omega

theorem Rdy.rel {G : Nat} {W : World} {φ : Emb} {H : AH} (h : Rdy G W φ H) {B : Base} (hk : B.K W) (hT : B.T = []) (hn : B.n = W.heap.size) : Rel B φ H W := rel_start hk hT hn h.floor (by rw [hn]; exact h.blk)
theorem Rdy.noFoot {G : Nat} {W : World} {φ : Emb} {H : AH} (h : Rdy G W φ H) : ∀ i b, H.get i = some b → b.ro = true := fun i b hb => (h.blk i b hb).2.1

end Go.Am
