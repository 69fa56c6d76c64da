/-
The same of values that are built, of slice expressions and of indexes. Conditions: those that each theorem names.
-/
import Derived.Test.YtjpppajbhpbkiaaDoorAm6
set_option linter.unusedSimpArgs false
set_option linter.unusedVariables false
namespace Go.Am
open Go.RowKit

section
variable {P : Program} {φ : Emb} {w : World} {ρ : Operand → Value} {e : Env}

theorem put_ok (off : Nat) : ∀ {as : List AV} {vs : List Value}, VRs φ as vs → ∀ (k : Nat) {z : List AV} {zs : Array Value}, VRs φ z zs.toList →
    VRs φ (putAt z (off + k) as) ((vs.zipIdx k).foldl (fun cs p => cs.setIfInBounds (off + p.2) p.1) zs).toList
  | [], vs, h, k, z, zs, hz => by cases h; simpa [putAt] using hz
  | a :: as, vs, h, k, z, zs, hz => by
    obtain ⟨v, vs, rfl, h1, h2⟩ := h.cons_inv
    rw [putAt, List.zipIdx_cons, List.foldl_cons]
    have := put_ok off h2 (k + 1) (z := z.set (off + k) a) (zs := zs.setIfInBounds (off + k) v) (by rw [Array.toList_setIfInBounds]; exact hz.set h1 _)
    simpa [Nat.add_assoc] using this

theorem put_size (off : Nat) : ∀ (vs : List Value) (k : Nat) (zs : Array Value), ((vs.zipIdx k).foldl (fun cs p => cs.setIfInBounds (off + p.2) p.1) zs).size = zs.size
  | [], _, _ => rfl
  | v :: vs, k, zs => by rw [List.zipIdx_cons, List.foldl_cons, put_size off vs]; simp

theorem fill_ok {place : Nat → Option (Nat × Nat)} (hρ : ∀ x y, ofOp P x = some y → VR φ (y.val e) (ρ x)) :
    ∀ {ps : List (Nat × Operand)} {l : List (Nat × Nat × Arg)} {z cs : List AV} {zs : Array Value}, partsOf P place ps = some l → afill z (l.map fun (o, n, x) => (o, n, x.val e)) = some cs → VRs φ z zs.toList →
      ∃ ds, Instr.fill place zs (ps.map fun x => (x.1, ρ x.2)) = some ds ∧ VRs φ cs ds.toList ∧ ds.size = zs.size
  | [], l, z, cs, zs, hp, ha, hz => by simp [partsOf] at hp; subst hp; simp [afill] at ha; subst ha; exact ⟨zs, rfl, hz, rfl⟩
  | (i, x) :: ps, l, z, cs, zs, hp, ha, hz => by
    simp only [partsOf] at hp
    split at hp
    · rename_i o n y l' h1 h2 h3
      simp at hp; subst hp
      simp only [List.map_cons, afill] at ha
      split at ha
      · rename_i cs' hc
        split at ha
        · rename_i hl
          have hv := cells_ok (hρ x y h2) hc
          have hlen := hv.length
          have hzl := hz.length
          simp at hlen hzl
          have hput := put_ok o hv 0 hz
          rw [Nat.add_zero] at hput
          obtain ⟨ds, h4, h5, h6⟩ := fill_ok hρ h3 ha hput
          rw [put_size] at h6
          refine ⟨ds, ?_, h5, h6⟩
          simp only [List.map_cons, Instr.fill, h1]
          rw [if_neg (by simp only [ne_eq, Bool.or_eq_true, decide_eq_true_eq, not_or]; omega)]
          rw [← h4]
          congr 1
          rw [← Array.foldl_toList, Array.toList_zipIdx]
        · simp at ha
      · simp at ha
    · simp at hp

theorem bnd_ok {a : AV} {v : Value} {y n : Nat} (h : bnd a y = some n) (hv : VR φ a v) {z : Nat} (hz : y ≤ z) (c : BoundsCode) : (Instr.sliceBound v z c).run P w = .ok n w ∧ n ≤ y := by
  unfold bnd at h
  split at h
  · rename_i k i
    split at h <;> simp at h
    rename_i hi
    obtain rfl := hv.int_inv
    subst h
    refine ⟨?_, by omega⟩
    have : 0 ≤ i ∧ i ≤ (z : Int) := by omega
    simp [Instr.sliceBound, asIntOf, this]
  · simp at h

/-- A bound that may be left out. -/
inductive VO (φ : Emb) : Option AV → Option Value → Prop
  | none : VO φ none none
  | some {a v} : VR φ a v → VO φ (some a) (some v)

theorem bnds_ok {n m l h : Nat} {lo hi : Option AV} {vl vh : Option Value} (hb : bnds n m lo hi = some (l, h)) (h1 : VO φ lo vl) (h2 : VO φ hi vh) (b : Bool) {cap : Nat} (hm : m ≤ cap) :
    (Instr.sliceBounds b n cap vl vh none).run P w = .ok (l, h, cap) w ∧ l ≤ h ∧ (hi = none → h = n) ∧ (hi ≠ none → h ≤ m) := by
  unfold bnds at hb
  cases h2 with
  | none =>
    simp only at hb
    cases h1 with
    | none => simp at hb; obtain ⟨rfl, rfl⟩ := hb; simp [Instr.sliceBounds]
    | some hv =>
      simp only at hb
      split at hb
      · simp at hb
      · rename_i l' hl
        simp at hb; obtain ⟨rfl, rfl⟩ := hb
        obtain ⟨h3, h4⟩ := bnd_ok (P := P) (w := w) hl hv (Nat.le_refl _) .sliceB
        simp [Instr.sliceBounds, h3, h4]
  | some hv2 =>
    simp only at hb
    split at hb
    · simp at hb
    · rename_i h' hh
      obtain ⟨h5, h6⟩ := bnd_ok (P := P) (w := w) hh hv2 hm (if b then .sliceAcap else .sliceAlen)
      cases h1 with
      | none => simp at hb; obtain ⟨rfl, rfl⟩ := hb; simp [Instr.sliceBounds, h5, h6]
      | some hv =>
        simp only at hb
        split at hb
        · simp at hb
        · rename_i l' hl
          simp at hb; obtain ⟨rfl, rfl⟩ := hb
          obtain ⟨h3, h4⟩ := bnd_ok (P := P) (w := w) hl hv (Nat.le_refl _) .sliceB
          simp [Instr.sliceBounds, h5, h3, h4, h6]

theorem bnds3_ok {n m l h : Nat} {lo : Option AV} {hi mv : AV} {vl : Option Value} {vh vm : Value} (hm : bnd mv n = some m) (hb : bnds n m lo (some hi) = some (l, h)) (h1 : VO φ lo vl) (h2 : VR φ hi vh) (h3 : VR φ mv vm) {cap : Nat} (hc : n ≤ cap) :
    (Instr.sliceBounds true n cap vl (some vh) (some vm)).run P w = .ok (l, h, m) w ∧ l ≤ h ∧ h ≤ m ∧ m ≤ n := by
  obtain ⟨h4, h5⟩ := bnd_ok (P := P) (w := w) hm h3 hc .slice3Acap
  unfold bnds at hb
  simp only at hb
  split at hb
  · simp at hb
  · rename_i h' hh
    obtain ⟨h6, h7⟩ := bnd_ok (P := P) (w := w) hh h2 (Nat.le_refl _) .slice3B
    cases h1 with
    | none => simp at hb; obtain ⟨rfl, rfl⟩ := hb; simp [Instr.sliceBounds, h4, h6, h7, h5]
    | some hv =>
      simp only at hb
      split at hb
      · simp at hb
      · rename_i l' hl
        simp at hb; obtain ⟨rfl, rfl⟩ := hb
        obtain ⟨h8, h9⟩ := bnd_ok (P := P) (w := w) hl hv (Nat.le_refl _) .slice3C
        simp [Instr.sliceBounds, h4, h6, h8, h9, h7, h5]

theorem size_str (s : List UInt8) : (⟨s.toArray⟩ : ByteArray).size = s.length := by
  show s.toArray.size = _
  simp

theorem extract_ok (s : List UInt8) (l h : Nat) : (⟨s.toArray⟩ : ByteArray).extract l h = ⟨((s.drop l).take (h - l)).toArray⟩ := by
  have : ((⟨s.toArray⟩ : ByteArray).extract l h).data = ((s.drop l).take (h - l)).toArray := by
    apply Array.ext'
    rw [ByteArray.data_extract]
    simp
  cases hx : (⟨s.toArray⟩ : ByteArray).extract l h
  rw [hx] at this
  simpa using this

theorem sub_ok {t : TypeId} (hu : P.underlying t = some .string) {s : List UInt8} {l h : Nat} {lo hi : Option AV} {vl vh : Option Value} (hb : bnds s.length s.length lo hi = some (l, h)) (h1 : VO φ lo vl) (h2 : VO φ hi vh) :
    (Instr.sliceAt t (.string ⟨s.toArray⟩) vl vh none).run P w = .ok (.string ⟨((s.drop l).take (h - l)).toArray⟩) w := by
  have := (bnds_ok (P := P) (w := w) hb h1 h2 false (cap := s.length) (Nat.le_refl _)).1
  have hsz := size_str s
  simp [Instr.sliceAt, run_underlying hu, Instr.slice, hsz, this, extract_ok]

theorem VR.sl {i o z n p s cc : Nat} {m : Option Nat} {c : Option Nat} (h1 : φ i = some (p, s, m)) (h2 : ∀ r, m = some r → s + o + cc * z ≤ r) (h3 : n ≤ cc) (h4 : ∀ d, c = some d → cc = d) :
    VR φ (.sl i o z n c) (.slice (some ⟨p, s + o, none⟩) n cc) := VRs.sl h1 h2 h3 h4 .nil
theorem VR.slz {i o z : Nat} {c : Option Nat} (a : Addr) (h : ∀ d, c = some d → 0 = d) : VR φ (.sl i o z 0 c) (.slice (some a) 0 0) := VRs.slz a h .nil

/-- A part of a slice. -/
theorem cut_ok {i o z n l h m : Nat} {c : Option Nat} {v : Value} (hv : VR φ (.sl i o z n c) v) (hl : l ≤ h) (hh : h ≤ n) :
    ∃ a cc, v = .slice (some a) n cc ∧ n ≤ cc ∧
      (∀ c', (∀ d, c' = some d → cc - l = d) → VR φ (.sl i (o + l * z) z (h - l) c') (.slice (some (if cc = l then a else a.add (l * z))) (h - l) (cc - l))) ∧
      (h ≤ m → m ≤ n → VR φ (.sl i (o + l * z) z (h - l) (some (m - l))) (.slice (some (if m = l then a else a.add (l * z))) (h - l) (m - l))) := by
  rcases hv.sl_inv with ⟨p, s, r, cc, e, h1, h2, h3, rfl⟩ | ⟨rfl, h1, a, rfl⟩
  · refine ⟨_, cc, rfl, h2, fun c' hc' => ?_, fun hm hmn => ?_⟩
    · by_cases hcl : cc = l
      · rw [if_pos hcl]
        have e1 : h - l = 0 := by omega
        have e2 : cc - l = 0 := by omega
        rw [e1, e2]
        exact VR.slz _ fun d hd => by have := hc' d hd; omega
      · rw [if_neg hcl, add_eq, Nat.add_assoc]
        refine VR.sl e (fun q hq => ?_) (by omega) hc'
        have := h1 q hq
        have e3 : l * z + (cc - l) * z = cc * z := by rw [← Nat.add_mul]; congr 1; omega
        omega
    · by_cases hcl : m = l
      · rw [if_pos hcl]
        have e1 : h - l = 0 := by omega
        have e2 : m - l = 0 := by omega
        rw [e1, e2]
        exact VR.slz _ fun d hd => by simp at hd; exact hd
      · rw [if_neg hcl, add_eq, Nat.add_assoc]
        refine VR.sl e (fun q hq => ?_) (by omega) (fun d hd => by simpa using hd)
        have := h1 q hq
        have e3 : l * z + (m - l) * z = m * z := by rw [← Nat.add_mul]; congr 1; omega
        have e4 : m * z ≤ cc * z := Nat.mul_le_mul_right _ (by omega)
        omega
  · obtain rfl : h = 0 := by omega
    obtain rfl : l = 0 := by omega
    refine ⟨a, 0, rfl, Nat.le_refl _, fun c' hc' => ?_, fun hm hmn => ?_⟩
    · simp
      exact VR.slz _ fun d hd => by have := hc' d hd; omega
    · obtain rfl : m = 0 := by omega
      simp
      exact VR.slz _ fun d hd => by simp at hd; exact hd

theorem index_str (s : List UInt8) (j : Nat) : (⟨s.toArray⟩ : ByteArray)[j]? = s[j]? := by
  by_cases h : j < s.length
  · rw [getElem?_pos (⟨s.toArray⟩ : ByteArray) j (by rw [size_str]; exact h), List.getElem?_eq_getElem h]
    rfl
  · rw [getElem?_neg (⟨s.toArray⟩ : ByteArray) j (by rw [size_str]; exact h), List.getElem?_eq_none (by omega)]

end
end Go.Am
