/-
Arguments of whatever data, opened once for all types. Conditions: they can be read, and the type's layout passes a check.
-/
import Derived.Test.YtolilamofgildaaGreatDoorMc
import Derived.Test.YtolilamofgildaaGreatDoorAm35
import Derived.Deep.DeepHandedRow
set_option linter.unusedSimpArgs false
set_option linter.unusedVariables false
set_option maxRecDepth 100000
namespace Go.Am
open Go.ChangeShapes Go.WideShapes Go.ChangeAt Go.RowKit

/-- Data without addresses; 'sl': n elements of z cells each, one after the other. -/
inductive DV where
  | int (k : IntKind) (n : Int)
  | bool (b : Bool)
  | str (s : List UInt8)
  | nils
  | esl
  | sl (z n : Nat) (cells : List DV)

/-- What cells of the world say. -/
inductive ArgD (W : World) : List DV → List Value → Prop
  | nil : ArgD W [] []
  | int (k : IntKind) (n : Int) {ds vs} : ArgD W ds vs → ArgD W (.int k n :: ds) (.int k n :: vs)
  | bool (b : Bool) {ds vs} : ArgD W ds vs → ArgD W (.bool b :: ds) (.bool b :: vs)
  | str (s : List UInt8) {ds vs} : ArgD W ds vs → ArgD W (.str s :: ds) (.string ⟨s.toArray⟩ :: vs)
  | nils {ds vs} : ArgD W ds vs → ArgD W (.nils :: ds) (.slice none 0 0 :: vs)
  | esl (a : Addr) (cap : Nat) {ds vs} : ArgD W ds vs → ArgD W (.esl :: ds) (.slice (some a) 0 cap :: vs)
  | sl (p s z n cap : Nat) {cells us ds vs} : p < W.heap.size → n ≤ cap → us.length = n * z → (∀ (j : Nat) u, us[j]? = some u → W.cell? ⟨p, s + j, none⟩ = some u) → ArgD W cells us → ArgD W ds vs →
      ArgD W (.sl z n cells :: ds) (.slice (some ⟨p, s, none⟩) n cap :: vs)

theorem ArgD.append {W : World} {ds vs ds' vs'} (h : ArgD W ds vs) (k : ArgD W ds' vs') : ArgD W (ds ++ ds') (vs ++ vs') := by
  induction h with
  | nil => exact k
  | int q n _ ih => exact .int q n ih
  | bool b _ ih => exact .bool b ih
  | str s _ ih => exact .str s ih
  | nils _ ih => exact .nils ih
  | esl a cap _ ih => exact .esl a cap ih
  | sl p s z n cap h1 h2 h3 h4 h5 _ _ ih => exact .sl p s z n cap h1 h2 h3 h4 h5 ih

theorem ArgD.length {W : World} {ds vs} (h : ArgD W ds vs) : ds.length = vs.length := by
  induction h <;> simp_all

/-! ### What a type's values say -/

def FsD (g : TypeId → List DV → Prop) : List Field → List DV → Prop
  | [], ds => ds = []
  | f :: fs, ds => ∃ a b, ds = a ++ b ∧ g f.type a ∧ FsD g fs b
def EsD (g : List DV → Prop) : Nat → List DV → Prop
  | 0, ds => ds = []
  | n + 1, ds => ∃ a b, ds = a ++ b ∧ g a ∧ EsD g n b

def TyD (P : Program) : Nat → TypeId → List DV → Prop
  | 0, _, _ => False
  | d + 1, t, ds => match P.underlying t with
    | some (.int k) => ∃ n, ds = [.int k n] ∧ (Lit.int k n).wf = true
    | some .bool => ∃ b, ds = [.bool b]
    | some .string => ∃ s, ds = [.str s] ∧ s.length ≤ maxLen
    | some (.slice e) => ds = [.nils] ∨ ds = [.esl] ∨ ∃ n cells, ds = [.sl (P.cellsOf e) n cells] ∧ 0 < n ∧ n ≤ maxLen ∧ EsD (TyD P d e) n cells
    | some (.struct fs) => FsD (TyD P d) fs.toList ds
    | some (.array n e) => EsD (TyD P d e) n ds
    | _ => False

/-- The fields lie one behind the other from o on; where they end. -/
def flds (P : Program) (g : TypeId → Bool) : List Field → Nat → Option Nat
  | [], o => some o
  | f :: fs, o => if f.offset == o && g f.type then flds P g fs (o + P.cellsOf f.type) else none

def layB (P : Program) : Nat → TypeId → Bool
  | 0, _ => false
  | d + 1, t => match P.underlying t with
    | some (.int _) => P.cellsOf t == 1
    | some .bool => P.cellsOf t == 1
    | some .string => P.cellsOf t == 1
    | some (.slice e) => P.cellsOf t == 1 && decide (0 < P.cellsOf e) && layB P d e
    | some (.struct fs) => flds P (layB P d) fs.toList 0 == some (P.cellsOf t)
    | some (.array n e) => P.cellsOf t == n * P.cellsOf e && layB P d e
    | _ => false

section
variable {H : Type} {enc : TypeId × Value → H} {P : Program} {W : World} {spare : Nat → Bool} {held : Bool}

theorem flds_ge {g : TypeId → Bool} : ∀ {fs : List Field} {o m : Nat}, flds P g fs o = some m → o ≤ m
  | [], o, m, h => by simp [flds] at h; omega
  | f :: fs, o, m, h => by
    unfold flds at h
    split at h
    · have := flds_ge h; omega
    · cases h

theorem open_fields {g : TypeId → Bool} {q : TypeId → List DV → Prop} {n : Nat} (ih : ∀ t, g t = true → ∀ cs x, DataW.trod enc P W 0 spare held n t cs = some x → ∃ ds, q t ds ∧ ArgD W ds cs ∧ cs.length = P.cellsOf t) :
    ∀ {fs : List Field} {o m : Nat} {cs : List Value}, flds P g fs o = some m → m ≤ cs.length → (∀ f ∈ fs, ∃ x, DataW.trod enc P W 0 spare held n f.type ((cs.drop f.offset).take (P.cellsOf f.type)) = some x) → ∃ ds, FsD q fs ds ∧ ArgD W ds ((cs.drop o).take (m - o))
  | [], o, m, cs, h, hm, _ => by
    simp [flds] at h
    subst h
    exact ⟨[], rfl, by simpa using ArgD.nil⟩
  | f :: fs, o, m, cs, h, hm, hx => by
    unfold flds at h
    split at h
    · rename_i hc
      simp only [Bool.and_eq_true, beq_iff_eq] at hc
      obtain ⟨h1, h2⟩ := hc
      obtain ⟨x, hx1⟩ := hx f (by simp)
      obtain ⟨a, a1, a2, a3⟩ := ih f.type h2 _ x hx1
      obtain ⟨b, b1, b2⟩ := open_fields ih h hm fun f' hf' => hx f' (by simp [hf'])
      have hge := flds_ge h
      refine ⟨a ++ b, ⟨a, b, rfl, a1, b1⟩, ?_⟩
      have e : (cs.drop o).take (m - o) = (cs.drop f.offset).take (P.cellsOf f.type) ++ (cs.drop (o + P.cellsOf f.type)).take (m - (o + P.cellsOf f.type)) := by
        rw [h1, ← List.drop_drop]
        have : m - o = P.cellsOf f.type + (m - (o + P.cellsOf f.type)) := by omega
        rw [this, List.take_add]
      rw [e]
      exact a2.append b2
    · cases h

theorem open_elems {q : List DV → Prop} {c p s : Nat} : ∀ (n i : Nat), (∀ j, i ≤ j → j < i + n → ∃ cs ds, W.cells? 0 ⟨p, s + j * c, none⟩ c = some cs ∧ q ds ∧ ArgD W ds cs) →
    ∃ cells us, EsD q n cells ∧ ArgD W cells us ∧ us.length = n * c ∧ ∀ (j : Nat) u, us[j]? = some u → W.cell? ⟨p, s + i * c + j, none⟩ = some u
  | 0, i, _ => ⟨[], [], rfl, .nil, by simp, fun j u h => by simp at h⟩
  | n + 1, i, h => by
    obtain ⟨cs, ds, h1, h2, h3⟩ := h i (Nat.le_refl _) (by omega)
    obtain ⟨cells, us, k1, k2, k3, k4⟩ := open_elems (q := q) (c := c) (p := p) (s := s) n (i + 1) fun j hj1 hj2 => h j (by omega) (by omega)
    obtain ⟨_, hl, hc⟩ := World.cells?_some h1
    refine ⟨ds ++ cells, cs ++ us, ⟨ds, cells, rfl, h2, k1⟩, h3.append k2, by rw [List.length_append, hl, k3, Nat.add_mul]; omega, fun j u hj => ?_⟩
    by_cases hjc : j < c
    · rw [List.getElem?_append_left (by omega)] at hj
      have := hc j hjc
      rw [add_eq] at this
      rw [this, hj]
    · rw [List.getElem?_append_right (by omega), hl] at hj
      have := k4 _ u hj
      rw [← this]
      congr 2
      rw [Nat.add_mul, Nat.one_mul]
      omega

theorem open_arr {q : List DV → Prop} {c : Nat} : ∀ (n i : Nat) {cs : List Value}, (i + n) * c ≤ cs.length → (∀ j, i ≤ j → j < i + n → ∃ ds, q ds ∧ ArgD W ds ((cs.drop (j * c)).take c)) →
    ∃ ds, EsD q n ds ∧ ArgD W ds ((cs.drop (i * c)).take (n * c))
  | 0, i, cs, _, _ => ⟨[], rfl, by simpa using ArgD.nil⟩
  | n + 1, i, cs, hl, h => by
    obtain ⟨a, a1, a2⟩ := h i (Nat.le_refl _) (by omega)
    obtain ⟨b, b1, b2⟩ := open_arr (q := q) (c := c) n (i + 1) (cs := cs) (by rw [show i + 1 + n = i + (n + 1) by omega]; exact hl) fun j h1 h2 => h j (by omega) (by omega)
    refine ⟨a ++ b, ⟨a, b, rfl, a1, b1⟩, ?_⟩
    have e : (cs.drop (i * c)).take ((n + 1) * c) = (cs.drop (i * c)).take c ++ (cs.drop ((i + 1) * c)).take (n * c) := by
      rw [Nat.add_mul, Nat.one_mul, Nat.add_comm (n * c) c, List.take_add, List.drop_drop, Nat.add_mul i 1 c, Nat.one_mul]
    rw [e]
    exact a2.append b2

theorem opened : ∀ (d : Nat) (t : TypeId), layB P d t = true → ∀ (fuel : Nat) (cs : List Value) (x : DataW H × List MemPlace), DataW.trod enc P W 0 spare held fuel t cs = some x → ∃ ds, TyD P d t ds ∧ ArgD W ds cs ∧ cs.length = P.cellsOf t
  | 0, t, h => by simp [layB] at h
  | d + 1, t, h => fun fuel cs x hx => by
    have ih := opened d
    unfold layB at h
    unfold TyD
    cases hu : P.underlying t with
    | none => simp [hu] at h
    | some u =>
      cases u <;> simp only [hu] at h ⊢ <;> first | (cases h; done) | (simp at h; done) | skip
      case bool =>
        obtain ⟨b, rfl, _⟩ := DataW.trod_bool hu hx
        exact ⟨_, ⟨b, rfl⟩, .bool b .nil, (beq_iff_eq.1 h).symm⟩
      case int k =>
        obtain ⟨n, rfl, _, hw⟩ := DataW.trod_int hu hx
        exact ⟨_, ⟨n, rfl, hw⟩, .int k n .nil, (beq_iff_eq.1 h).symm⟩
      case string =>
        obtain ⟨s, rfl, _, hw⟩ := DataW.trod_string hu hx
        have := ArgD.str (W := W) s.data.toList .nil
        rw [byteArray_eta] at this
        exact ⟨_, ⟨s.data.toList, rfl, by simpa using hw⟩, this, (beq_iff_eq.1 h).symm⟩
      case struct fs =>
        obtain ⟨xs, n, _, _, hl, hxl, hat⟩ := DataW.trod_struct hu hx
        obtain ⟨ds, h1, h2⟩ := open_fields (fun t ht cs x => ih t ht n cs x) (beq_iff_eq.1 h) (by omega) (cs := cs) fun f hf => by
          obtain ⟨i, hi⟩ := List.mem_iff_getElem?.1 hf
          have h3 := hat i f (by simpa using hi)
          have hlt : i < xs.length := by
            rw [hxl]
            by_cases hlt : i < fs.size
            · exact hlt
            · rw [List.getElem?_eq_none (by simp; omega)] at hi; cases hi
          rw [List.getElem?_eq_getElem hlt] at h3
          exact ⟨_, h3⟩
        refine ⟨ds, h1, ?_, hl⟩
        rw [List.drop_zero, Nat.sub_zero, List.take_of_length_le (by omega)] at h2
        exact h2
      case array n e =>
        simp only [Bool.and_eq_true, beq_iff_eq] at h
        obtain ⟨xs, m, _, _, hl, hxl, hat⟩ := DataW.trod_array hu hx
        obtain ⟨ds, h1, h2⟩ := open_arr (q := TyD P d e) (c := P.cellsOf e) n 0 (cs := cs) (by rw [Nat.zero_add, hl, h.1]; exact Nat.le_refl _) fun j _ hj => by
          have h3 := hat j (by omega)
          rw [List.getElem?_eq_getElem (by omega)] at h3
          obtain ⟨ds, h4, h5, _⟩ := ih e h.2 m _ _ h3
          exact ⟨ds, h4, h5⟩
        refine ⟨ds, h1, ?_, hl⟩
        rw [Nat.zero_mul, List.drop_zero, List.take_of_length_le (by omega)] at h2
        exact h2
      case slice e =>
        simp only [Bool.and_eq_true, beq_iff_eq, decide_eq_true_eq] at h
        obtain ⟨⟨h1, h2⟩, h3⟩ := h
        rcases DataW.trod_slice hu hx with ⟨rfl, _⟩ | ⟨a, len, cap, elems, rest, n, _, rfl, _, _, hlc, hcap, hel, hat, _⟩
        · exact ⟨_, .inl rfl, .nils .nil, h1.symm⟩
        · cases len with
          | zero => exact ⟨_, .inr (.inl rfl), .esl a cap .nil, h1.symm⟩
          | succ k =>
            have each : ∀ i, i < k + 1 → ∃ cs ds, W.cells? 0 (a.add (i * P.cellsOf e)) (P.cellsOf e) = some cs ∧ TyD P d e ds ∧ ArgD W ds cs := fun i hi => by
              have h4 := hat i hi
              rw [List.getElem?_eq_getElem (by omega)] at h4
              obtain ⟨cs, h5, h6⟩ := Option.bind_eq_some_iff.1 h4
              obtain ⟨ds, h7, h8, _⟩ := ih e h3 n _ _ h6
              exact ⟨cs, ds, h5, h7, h8⟩
            have first : ∃ u, W.cell? a = some u := by
              obtain ⟨cs, _, h4, _⟩ := each 0 (by omega)
              obtain ⟨_, hl, hc⟩ := World.cells?_some h4
              have h5 := hc 0 h2
              have e : (a.add (0 * P.cellsOf e)).add 0 = a := by simp [Addr.add]
              rw [e, List.getElem?_eq_getElem (by omega)] at h5
              exact ⟨_, h5⟩
            have hspot : a.spot = none := by
              obtain ⟨u, hu⟩ := first
              unfold World.cell? at hu
              split at hu
              · split at hu
                · cases hu
                · rename_i hs; simpa using hs
              · cases hu
            obtain ⟨p, s, sp⟩ := a
            simp only at hspot
            subst hspot
            have hp : p < W.heap.size := by
              obtain ⟨u, hu⟩ := first
              unfold World.cell? at hu
              by_cases hb : p < W.heap.size
              · exact hb
              · rw [Array.getElem?_eq_none (by show W.heap.size ≤ p; omega)] at hu; cases hu
            obtain ⟨cells, us, k1, k2, k3, k4⟩ := open_elems (W := W) (q := TyD P d e) (c := P.cellsOf e) (p := p) (s := s) (k + 1) 0 fun j _ hj => by
              obtain ⟨cs, ds, h4, h5, h6⟩ := each j (by omega)
              rw [add_eq] at h4
              exact ⟨cs, ds, h4, h5, h6⟩
            refine ⟨_, .inr (.inr ⟨k + 1, cells, rfl, by omega, by omega, k1⟩), .sl p s _ _ cap hp hlc k3 (fun j u hj => ?_) k2 .nil, h1.symm⟩
            have := k4 j u hj
            rw [Nat.zero_mul, Nat.add_zero] at this
            exact this
end

/-! ### On the machine's heap -/

/-- Values of the machine that say so; the blocks' names are below lo. -/
inductive DVs (lo : Nat) (H : AH) : List AV → List DV → Prop
  | nil : DVs lo H [] []
  | int (k : IntKind) (n : Int) {as ds} : DVs lo H as ds → DVs lo H (.int k n :: as) (.int k n :: ds)
  | bool (b : Bool) {as ds} : DVs lo H as ds → DVs lo H (.bool b :: as) (.bool b :: ds)
  | str (s : List UInt8) {as ds} : DVs lo H as ds → DVs lo H (.str s :: as) (.str s :: ds)
  | nils {as ds} : DVs lo H as ds → DVs lo H (.nils :: as) (.nils :: ds)
  | esl {as ds} : DVs lo H as ds → DVs lo H (.esl :: as) (.esl :: ds)
  | sl {i o z n : Nat} {c : Option Nat} {b : Blk} {cells as ds} : i < lo → H.get i = some b → o + n * z ≤ b.cells.length → DVs lo H ((b.cells.drop o).take (n * z)) cells → DVs lo H as ds → DVs lo H (.sl i o z n c :: as) (.sl z n cells :: ds)

theorem DVs.old {lo lo' : Nat} {H H' : AH} {as ds} (h : DVs lo H as ds) (hl : lo ≤ lo') (hk : ∀ i, i < lo → H'.get i = H.get i) : DVs lo' H' as ds := by
  induction h with
  | nil => exact .nil
  | int k n _ ih => exact .int k n ih
  | bool b _ ih => exact .bool b ih
  | str s _ ih => exact .str s ih
  | nils _ ih => exact .nils ih
  | esl _ ih => exact .esl ih
  | sl h1 h2 h3 _ _ ih1 ih2 => exact .sl (Nat.lt_of_lt_of_le h1 hl) ((hk _ h1).trans h2) h3 ih1 ih2

theorem DVs.append {lo : Nat} {H : AH} {as ds as' ds'} (h : DVs lo H as ds) (k : DVs lo H as' ds') : DVs lo H (as ++ as') (ds ++ ds') := by
  induction h with
  | nil => exact k
  | int k n _ ih => exact .int k n ih
  | bool b _ ih => exact .bool b ih
  | str s _ ih => exact .str s ih
  | nils _ ih => exact .nils ih
  | esl _ ih => exact .esl ih
  | sl h1 h2 h3 h4 _ _ ih => exact .sl h1 h2 h3 h4 ih

theorem DVs.length {lo : Nat} {H : AH} {as ds} (h : DVs lo H as ds) : as.length = ds.length := by
  induction h <;> simp_all

theorem DVs.split {lo : Nat} {H : AH} : ∀ {ds ds' : List DV} {as}, DVs lo H as (ds ++ ds') → ∃ a b, as = a ++ b ∧ DVs lo H a ds ∧ DVs lo H b ds'
  | [], ds', as, h => ⟨[], as, rfl, .nil, h⟩
  | d :: ds, ds', as, h => by
    cases h with
    | int k n h => obtain ⟨a, b, rfl, h1, h2⟩ := DVs.split h; exact ⟨_ :: a, b, rfl, .int k n h1, h2⟩
    | bool q h => obtain ⟨a, b, rfl, h1, h2⟩ := DVs.split h; exact ⟨_ :: a, b, rfl, .bool q h1, h2⟩
    | str s h => obtain ⟨a, b, rfl, h1, h2⟩ := DVs.split h; exact ⟨_ :: a, b, rfl, .str s h1, h2⟩
    | nils h => obtain ⟨a, b, rfl, h1, h2⟩ := DVs.split h; exact ⟨_ :: a, b, rfl, .nils h1, h2⟩
    | esl h => obtain ⟨a, b, rfl, h1, h2⟩ := DVs.split h; exact ⟨_ :: a, b, rfl, .esl h1, h2⟩
    | sl q1 q2 q3 q4 h => obtain ⟨a, b, rfl, h1, h2⟩ := DVs.split h; exact ⟨_ :: a, b, rfl, .sl q1 q2 q3 q4 h1, h2⟩

/-- A slice among them. -/
theorem DVs.slice {lo : Nat} {H : AH} {v : AV} {z n : Nat} {cells : List DV} (h : DVs lo H [v] [.sl z n cells]) : ∃ us, SliceV H z v n us ∧ DVs lo H us cells := by
  cases h with
  | sl h1 h2 h3 h4 h5 => exact ⟨_, SliceV.sl h2 h3, h4⟩

/-- What is ready when a law begins: every block is an argument's. -/
structure RdyD (G : Nat) (W : World) (φ : Emb) (H : AH) : Prop where
  globs : ∀ g, g < G → φ g = some (g, 0, none)
  free : ∀ i, H.next ≤ i → φ i = none
  low : G ≤ H.next
  floor : H.floor = H.next
  blk : ∀ i b, H.get i = some b → i < H.next ∧ b.ro = true ∧ ∃ p s, φ i = some (p, s, none) ∧ p < W.heap.size ∧ ∀ (j : Nat) v, b.cells[j]? = some v → ∃ v', W.cell? ⟨p, s + j, none⟩ = some v' ∧ VR φ v v'
  names : Names H

theorem RdyD.start (G : Nat) (W : World) : RdyD G W (glob G) ⟨[], G, G⟩ where
  globs := fun g hg => by simp [glob, hg]
  free := fun i (hi : G ≤ i) => by simp [glob, Nat.not_lt.2 hi]
  low := Nat.le_refl _
  floor := rfl
  blk := fun i b h => by cases h
  names := fun x hx => by cases hx

theorem RdyD.push {G : Nat} {W : World} {φ : Emb} {H : AH} (h : RdyD G W φ H) {p s : Nat} (hp : p < W.heap.size) (cells : List AV) (hc : ∀ (j : Nat) v, cells[j]? = some v → ∃ v', W.cell? ⟨p, s + j, none⟩ = some v' ∧ VR φ v v') :
    RdyD G W (fun i => if i = H.next then some (p, s, none) else φ i) ⟨(H.next, ⟨cells, true, 0, false, false⟩) :: H.blks, H.next + 1, H.next + 1⟩ ∧ φ.le (fun i => if i = H.next then some (p, s, none) else φ i) ∧ (∀ i, i < H.next → (⟨(H.next, ⟨cells, true, 0, false, false⟩) :: H.blks, H.next + 1, H.next + 1⟩ : AH).get i = H.get i) := by
  have hle : φ.le (fun i => if i = H.next then some (p, s, none) else φ i) := fun i x hx => by
    by_cases hi : i = H.next
    · subst hi; rw [h.free _ (Nat.le_refl _)] at hx; cases hx
    · simp [hi, hx]
  refine ⟨⟨fun g hg => ?_, fun i hi => ?_, Nat.le_succ_of_le h.low, rfl, fun i b hb => ?_, fun x hx => ?_⟩, hle, fun i hi => ?_⟩
  · have : ¬ g = H.next := by have := h.low; omega
    simp [this, h.globs g hg]
  · have hi' : H.next + 1 ≤ i := hi
    have : ¬ i = H.next := by omega
    simp [this, h.free i (by omega)]
  · simp only [AH.get, lk] at hb
    split at hb
    · rename_i hi
      obtain rfl := Option.some.inj hb
      subst hi
      refine ⟨Nat.lt_succ_self _, rfl, p, s, by simp, hp, fun j v hj => ?_⟩
      obtain ⟨v', h1, h2⟩ := hc j v hj
      exact ⟨v', h1, h2.mono hle⟩
    · rename_i hi
      obtain ⟨h1, h2, p', s', h3, h4, h5⟩ := h.blk i b hb
      refine ⟨Nat.lt_succ_of_lt h1, h2, p', s', hle _ _ h3, h4, fun j v hj => ?_⟩
      obtain ⟨v', h6, h7⟩ := h5 j v hj
      exact ⟨v', h6, h7.mono hle⟩
  · show x.1 < H.next + 1
    rcases List.mem_cons.1 hx with rfl | hx
    · exact Nat.lt_succ_self _
    · have := h.names x hx; omega
  · simp only [AH.get, lk]
    rw [if_neg (by omega)]

theorem RdyD.build {G : Nat} {W : World} {ds : List DV} {vs : List Value} (a : ArgD W ds vs) : ∀ {φ : Emb} {H : AH}, RdyD G W φ H →
    ∃ as ψ H', RdyD G W ψ H' ∧ VRs ψ as vs ∧ DVs H'.next H' as ds ∧ φ.le ψ ∧ H.next ≤ H'.next ∧ ∀ i, i < H.next → H'.get i = H.get i := by
  induction a with
  | nil => intro φ H h; exact ⟨[], φ, H, h, .nil, .nil, Emb.le_refl _, Nat.le_refl _, fun _ _ => rfl⟩
  | int k n _ ih => intro φ H h; obtain ⟨as, ψ, H', h1, h2, h3, h4⟩ := ih h; exact ⟨_ :: as, ψ, H', h1, .int k n h2, .int k n h3, h4⟩
  | bool b _ ih => intro φ H h; obtain ⟨as, ψ, H', h1, h2, h3, h4⟩ := ih h; exact ⟨_ :: as, ψ, H', h1, .bool b h2, .bool b h3, h4⟩
  | str s _ ih => intro φ H h; obtain ⟨as, ψ, H', h1, h2, h3, h4⟩ := ih h; exact ⟨_ :: as, ψ, H', h1, .str s h2, .str s h3, h4⟩
  | nils _ ih => intro φ H h; obtain ⟨as, ψ, H', h1, h2, h3, h4⟩ := ih h; exact ⟨_ :: as, ψ, H', h1, .nils h2, .nils h3, h4⟩
  | esl a cap _ ih => intro φ H h; obtain ⟨as, ψ, H', h1, h2, h3, h4⟩ := ih h; exact ⟨_ :: as, ψ, H', h1, .esl a cap h2, .esl h3, h4⟩
  | sl p s z n cap q1 q2 q3 q4 _ _ ih1 ih2 =>
    intro φ H h
    obtain ⟨us, ψ, H1, h1, h2, h3, h4, h5, h6⟩ := ih1 h
    have hul := h2.length
    obtain ⟨k1, k2, k3⟩ := h1.push (s := s) q1 us fun j v hj => by
      obtain ⟨v', e1, e2⟩ := h2.get hj
      exact ⟨v', q4 j v' e1, e2⟩
    obtain ⟨as, χ, H2, m1, m2, m3, m4, m5, m6⟩ := ih2 k1
    have m5' : H1.next + 1 ≤ H2.next := m5
    have hnew : (⟨(H1.next, ⟨us, true, 0, false, false⟩) :: H1.blks, H1.next + 1, H1.next + 1⟩ : AH).get H1.next = some ⟨us, true, 0, false, false⟩ := by simp [AH.get, lk]
    refine ⟨.sl H1.next 0 z n none :: as, χ, H2, m1, ?_, ?_, Emb.le_trans (Emb.le_trans h4 k2) m4, by omega, fun i hi => ?_⟩
    · have e := m4 H1.next (p, s, none) (by simp)
      have := VRs.sl (φ := χ) (i := H1.next) (o := 0) (z := z) (n := n) (c := none) (p := p) (s := s) (m := none) (cc := cap) e (fun r hr => by cases hr) q2 (fun d hd => by cases hd) m2
      exact this
    · refine .sl (by omega) ((m6 _ (Nat.lt_succ_self _)).trans hnew) (by show 0 + n * z ≤ us.length; omega) ?_ m3
      rw [List.drop_zero, List.take_of_length_le (by show us.length ≤ _; omega)]
      exact h3.old (by omega) fun i hi => (m6 i (Nat.lt_succ_of_lt hi)).trans (k3 i hi)
    · exact (m6 i (Nat.lt_succ_of_lt (by omega))).trans ((k3 i (by omega)).trans (h6 i hi))

theorem RdyD.rel {G : Nat} {W : World} {φ : Emb} {H : AH} (h : RdyD G W φ H) {B : Base} (hk : B.K W) (hT : B.T = []) (hn : B.n = W.heap.size) : Rel B φ H W := rel_start hk hT hn (Nat.le_of_eq h.floor) (by rw [hn]; exact h.blk)
theorem RdyD.noFoot {G : Nat} {W : World} {φ : Emb} {H : AH} (h : RdyD G W φ H) : ∀ i b, H.get i = some b → b.ro = true := fun i b hb => (h.blk i b hb).2.1

/-- An argument of whatever data. -/
theorem any_arg {P : Program} {H : Type} {enc : TypeId × Value → H} {W : World} {t : TypeId} {v : Value} {x : DataW H} {p : List MemPlace} {r : Reach} {b0 d : Nat} (hl : layB P d t = true) (hv : Value.okWide P W r b0 t v) (h : DataW.Trod enc P W 0 (fun _ => true) true t v x p) : ∃ ds, TyD P d t ds ∧ ArgD W ds v.cells.toList := by
  obtain ⟨fuel, hf⟩ := h
  obtain ⟨ds, h1, h2, _⟩ := opened d t hl fuel _ _ hf
  exact ⟨ds, h1, h2⟩


/-! ### Lists of them -/

theorem DVs.nil_inv {lo : Nat} {H : AH} {as : List AV} (h : DVs lo H as []) : as = [] := by cases h; rfl

theorem es_flat {lo : Nat} {H : AH} {g : List DV → Prop} {α : Type} {f : α → List AV} (h : ∀ d a, g d → DVs lo H a d → ∃ x, a = f x) : ∀ (n : Nat) {cells : List DV} {us : List AV}, EsD g n cells → DVs lo H us cells → ∃ xs : List α, xs.length = n ∧ us = rowsOf f xs
  | 0, cells, us, he, hd => by
    obtain rfl : cells = [] := he
    exact ⟨[], rfl, hd.nil_inv⟩
  | n + 1, cells, us, he, hd => by
    obtain ⟨a, b, rfl, h1, h2⟩ := he
    obtain ⟨ua, ub, rfl, k1, k2⟩ := hd.split
    obtain ⟨x, rfl⟩ := h a ua h1 k1
    obtain ⟨xs, h3, rfl⟩ := es_flat h n h2 k2
    exact ⟨x :: xs, by simp [h3], rfl⟩

theorem es_one {lo : Nat} {H : AH} {g : List DV → Prop} {α : Type} {R : AV → α → Prop} (h : ∀ d a, g d → DVs lo H a d → ∃ u x, a = [u] ∧ R u x) : ∀ (n : Nat) {cells : List DV} {us : List AV}, EsD g n cells → DVs lo H us cells →
    ∃ xs : List α, xs.length = n ∧ us.length = n ∧ ∀ (i : Nat) u x, us[i]? = some u → xs[i]? = some x → R u x
  | 0, cells, us, he, hd => by
    obtain rfl : cells = [] := he
    rw [hd.nil_inv]
    exact ⟨[], rfl, rfl, fun i u x hu => by simp at hu⟩
  | n + 1, cells, us, he, hd => by
    obtain ⟨a, b, rfl, h1, h2⟩ := he
    obtain ⟨ua, ub, rfl, k1, k2⟩ := hd.split
    obtain ⟨u, x, rfl, hR⟩ := h a ua h1 k1
    obtain ⟨xs, h3, h4, h5⟩ := es_one h n h2 k2
    refine ⟨x :: xs, by simp [h3], by simp [h4], fun i u' x' hu hx => ?_⟩
    cases i with
    | zero => simp at hu hx; subst hu; subst hx; exact hR
    | succ i => exact h5 i u' x' (by simpa using hu) (by simpa using hx)

/-- What a slice of a type says. -/
theorem TyD.slice_inv {P : Program} {d : Nat} {t e : TypeId} {ds : List DV} (hu : P.underlying t = some (.slice e)) (h : TyD P (d + 1) t ds) : ds = [.nils] ∨ ds = [.esl] ∨ ∃ n cells, ds = [.sl (P.cellsOf e) n cells] ∧ 0 < n ∧ n ≤ maxLen ∧ EsD (TyD P d e) n cells := by
  unfold TyD at h; rw [hu] at h; exact h
theorem TyD.str_inv {P : Program} {d : Nat} {t : TypeId} {ds : List DV} (hu : P.underlying t = some .string) (h : TyD P (d + 1) t ds) : ∃ s, ds = [.str s] ∧ s.length ≤ maxLen := by
  unfold TyD at h; rw [hu] at h; exact h
theorem TyD.int_inv {P : Program} {d : Nat} {t : TypeId} {k : IntKind} {ds : List DV} (hu : P.underlying t = some (.int k)) (h : TyD P (d + 1) t ds) : ∃ n, ds = [.int k n] ∧ (Lit.int k n).wf = true := by
  unfold TyD at h; rw [hu] at h; exact h
theorem TyD.bool_inv {P : Program} {d : Nat} {t : TypeId} {ds : List DV} (hu : P.underlying t = some .bool) (h : TyD P (d + 1) t ds) : ∃ b, ds = [.bool b] := by
  unfold TyD at h; rw [hu] at h; exact h
theorem TyD.struct_inv {P : Program} {d : Nat} {t : TypeId} {fs : Array Field} {ds : List DV} (hu : P.underlying t = some (.struct fs)) (h : TyD P (d + 1) t ds) : FsD (TyD P d) fs.toList ds := by
  unfold TyD at h; rw [hu] at h; exact h

/-- A slice of flat rows as a value. -/
theorem TyD.rows {P : Program} {d : Nat} {t e : TypeId} {ds : List DV} {lo : Nat} {H : AH} {as : List AV} {α : Type} {f : α → List AV} (hu : P.underlying t = some (.slice e)) (h : TyD P (d + 1) t ds) (hd : DVs lo H as ds) (hf : ∀ q a, TyD P d e q → DVs lo H a q → ∃ x, a = f x) :
    ∃ v xs, as = [v] ∧ SliceV H (P.cellsOf e) v xs.length (rowsOf f xs) ∧ ∀ i o z m c, v = .sl i o z m c → i < lo := by
  rcases h.slice_inv hu with rfl | rfl | ⟨n, cells, rfl, _, _, he⟩
  · cases hd with
    | nils h => obtain rfl := h.nil_inv; exact ⟨.nils, [], rfl, .nil, fun _ _ _ _ _ e => by cases e⟩
  · cases hd with
    | esl h => obtain rfl := h.nil_inv; exact ⟨.esl, [], rfl, .emp, fun _ _ _ _ _ e => by cases e⟩
  · cases hd with
    | sl h1 h2 h3 h4 h5 =>
      obtain rfl := h5.nil_inv
      obtain ⟨xs, k1, k2⟩ := es_flat hf n he h4
      subst k1
      refine ⟨_, xs, rfl, ?_, fun _ _ _ _ _ e => by cases e; exact h1⟩
      rw [← k2]
      exact SliceV.sl h2 h3

/-- A law's call, whatever heap it leaves. -/
theorem law_callsH {P : Program} {f : FuncId} {F : Func} (hF : P.funcs[f]? = some F) (hname : (F.name == "runtime.NumGoroutine") = false) (hb : F.body.isSome = true) {B : Base} {call : Call} (hc : CallOk P B call)
    {args : List AV} {vs : List Value} {H H' : AH} {w : World} {φ : Emb} (h : call f args H = some (.ok (.bool true), H')) (hr : Rel B φ H w) (hv : VRs φ args vs) (hg : GlobR P φ) (hfree : ∀ i, H.next ≤ i → φ i = none) (hfoot : ∀ p, ¬ Foot φ H p) :
    Calls P f vs.toArray w fun e w' => e = .returned (.bool true) ∧ Below w.heap.size w w' := by
  have hd := hc f args H _ H' φ vs w h hr hv hg (fun i h1 _ => hfree i h1)
  have hname' : F.name ≠ "runtime.NumGoroutine" := by simpa using hname
  obtain ⟨c, hcb⟩ := Option.isSome_iff_exists.1 hb
  have hcall : (callFunc f vs.toArray).run P w = .ok (.enter f vs.toArray) w := by simp [callFunc, hF, hname', hcb]
  rw [hcall] at hd
  refine Calls.mono (show Calls P f vs.toArray w _ from hd) ?_
  rintro e w' ⟨ψ, hs, v', rfl, hv'⟩
  obtain rfl := hv'.bool_inv
  exact ⟨rfl, hs.os, hs.tape, hs.output, hs.size, fun k hk => hs.frame k hk (hfoot k)⟩

end Go.Am
