/-
How the abstract machine's values and heap stand to the model's values and worlds, and what pushing, storing and turning a block keeps of it. Conditions: those that each theorem names.
-/
import Derived.Test.YtjpppajbhpbkiaaDoorAm1
import Derived.WalkKit
import Derived.Below
import Derived.Laws.Sem
import Derived.Laws.World
set_option linter.unusedSimpArgs false
set_option linter.unusedVariables false
namespace Go.Am
open Go.RowKit

/-- Where a block lies: its block of memory, where it begins there, and, of one's own, how many cells that block has. -/
abbrev Emb := Nat → Option (Nat × Nat × Option Nat)

inductive VRs (φ : Emb) : List AV → List Value → Prop
  | nil : VRs φ [] []
  | undef {as vs} (v : Value) : VRs φ as vs → VRs φ (.undef :: as) (v :: vs)
  | bool {as vs} (b : Bool) : VRs φ as vs → VRs φ (.bool b :: as) (.bool b :: vs)
  | int {as vs} (k : IntKind) (n : Int) : VRs φ as vs → VRs φ (.int k n :: as) (.int k n :: vs)
  | str {as vs} (s : List UInt8) : VRs φ as vs → VRs φ (.str s :: as) (.string ⟨s.toArray⟩ :: vs)
  | nilp {as vs} : VRs φ as vs → VRs φ (.nilp :: as) (.pointer none :: vs)
  | ptr {as vs} {i o p s m} : φ i = some (p, s, m) → VRs φ as vs → VRs φ (.ptr i o :: as) (.pointer (some ⟨p, s + o, none⟩) :: vs)
  | nils {as vs} : VRs φ as vs → VRs φ (.nils :: as) (.slice none 0 0 :: vs)
  | sl {as vs} {i o z n p s m} {c : Option Nat} {cc : Nat} : φ i = some (p, s, m) → (∀ r, m = some r → s + o + cc * z ≤ r) → n ≤ cc → (∀ d, c = some d → cc = d) → VRs φ as vs →
      VRs φ (.sl i o z n c :: as) (.slice (some ⟨p, s + o, none⟩) n cc :: vs)
  | slz {as vs} {i o z} {c : Option Nat} (a : Addr) : (∀ d, c = some d → 0 = d) → VRs φ as vs → VRs φ (.sl i o z 0 c :: as) (.slice (some a) 0 0 :: vs)
  | esl {as vs} (a : Addr) (cc : Nat) : VRs φ as vs → VRs φ (.esl :: as) (.slice (some a) 0 cc :: vs)
  | func {as vs cs} {ds : Array Value} (f : FuncId) : VRs φ cs ds.toList → VRs φ as vs → VRs φ (.func f cs :: as) (.func (.func f) #[] ds :: vs)
  | nilf {as vs} : VRs φ as vs → VRs φ (.nilf :: as) (.nilFunc :: vs)
  | iface {as vs a v} (t : TypeId) : VRs φ [a] [v] → VRs φ as vs → VRs φ (.iface t a :: as) (.iface t v :: vs)
  | nili {as vs} : VRs φ as vs → VRs φ (.nili :: as) (.nilIface :: vs)
  | agg {as vs cs} {ds : Array Value} : VRs φ cs ds.toList → VRs φ as vs → VRs φ (.agg cs :: as) (.agg ds :: vs)
  | tup {as vs cs} {ds : Array Value} : VRs φ cs ds.toList → VRs φ as vs → VRs φ (.tup cs :: as) (.tuple ds :: vs)

def VR (φ : Emb) (a : AV) (v : Value) : Prop := VRs φ [a] [v]

def Emb.le (φ ψ : Emb) : Prop := ∀ i x, φ i = some x → ψ i = some x

theorem Emb.le_refl (φ : Emb) : φ.le φ := fun _ _ h => h
theorem Emb.le_trans {φ ψ χ : Emb} (h : φ.le ψ) (k : ψ.le χ) : φ.le χ := fun i x e => k i x (h i x e)

theorem VRs.mono {φ ψ : Emb} (h : φ.le ψ) {as vs} (k : VRs φ as vs) : VRs ψ as vs := by
  induction k with
  | nil => exact .nil
  | undef v _ ih => exact .undef v ih
  | bool b _ ih => exact .bool b ih
  | int k n _ ih => exact .int k n ih
  | str s _ ih => exact .str s ih
  | nilp _ ih => exact .nilp ih
  | ptr e _ ih => exact .ptr (h _ _ e) ih
  | nils _ ih => exact .nils ih
  | sl e a b c _ ih => exact .sl (h _ _ e) a b c ih
  | slz a b _ ih => exact .slz a b ih
  | esl a c _ ih => exact .esl a c ih
  | func f _ _ ih ih' => exact .func f ih ih'
  | nilf _ ih => exact .nilf ih
  | iface t _ _ ih ih' => exact .iface t ih ih'
  | nili _ ih => exact .nili ih
  | agg _ _ ih ih' => exact .agg ih ih'
  | tup _ _ ih ih' => exact .tup ih ih'

theorem VR.mono {φ ψ : Emb} (h : φ.le ψ) {a v} (k : VR φ a v) : VR ψ a v := VRs.mono h k

theorem VRs.cons {φ : Emb} {a v as vs} (h : VR φ a v) (k : VRs φ as vs) : VRs φ (a :: as) (v :: vs) := by
  unfold VR at h
  cases h <;> constructor <;> assumption

theorem VRs.head {φ : Emb} {a v as vs} (h : VRs φ (a :: as) (v :: vs)) : VR φ a v := by
  unfold VR
  cases h <;> constructor <;> first | assumption | exact .nil

theorem VRs.tail {φ : Emb} {a v as vs} (h : VRs φ (a :: as) (v :: vs)) : VRs φ as vs := by
  cases h <;> assumption

theorem VRs.cons_inv {φ : Emb} {a as l} (h : VRs φ (a :: as) l) : ∃ v vs, l = v :: vs ∧ VR φ a v ∧ VRs φ as vs := by
  cases l with
  | nil => cases h
  | cons v vs => exact ⟨v, vs, rfl, h.head, h.tail⟩

theorem VRs.nil_inv {φ : Emb} {l} (h : VRs φ [] l) : l = [] := by cases h; rfl

theorem VRs.length {φ : Emb} {as vs} (h : VRs φ as vs) : as.length = vs.length := by
  induction as generalizing vs with
  | nil => cases h; rfl
  | cons a as ih => obtain ⟨v, vs, rfl, _, h2⟩ := h.cons_inv; simp [ih h2]

theorem VRs.get {φ : Emb} {as vs} (h : VRs φ as vs) {i : Nat} {a : AV} (hi : as[i]? = some a) : ∃ v, vs[i]? = some v ∧ VR φ a v := by
  induction as generalizing vs i with
  | nil => simp at hi
  | cons b as ih =>
    obtain ⟨v, vs, rfl, h1, h2⟩ := h.cons_inv
    cases i with
    | zero => simp at hi; subst hi; exact ⟨v, by simp, h1⟩
    | succ i => simpa using ih h2 (by simpa using hi)

theorem VRs.of_get {φ : Emb} : ∀ {as : List AV} {vs : List Value}, as.length = vs.length → (∀ (i : Nat) (a : AV), as[i]? = some a → ∃ v, vs[i]? = some v ∧ VR φ a v) → VRs φ as vs
  | [], [], _, _ => .nil
  | a :: as, v :: vs, hl, h => by
    obtain ⟨v', e, hv⟩ := h 0 a (by simp)
    simp at e; subst e
    exact .cons hv (VRs.of_get (by simpa using hl) fun i a hi => by simpa using h (i + 1) a (by simpa using hi))
  | [], _ :: _, hl, _ => by simp at hl
  | _ :: _, [], hl, _ => by simp at hl

theorem VRs.append {φ : Emb} {as vs bs ws} (h : VRs φ as vs) (k : VRs φ bs ws) : VRs φ (as ++ bs) (vs ++ ws) := by
  induction as generalizing vs with
  | nil => cases h; exact k
  | cons a as ih => obtain ⟨v, vs, rfl, h1, h2⟩ := h.cons_inv; exact .cons h1 (ih h2)

theorem VRs.drop {φ : Emb} {as vs} (h : VRs φ as vs) (n : Nat) : VRs φ (as.drop n) (vs.drop n) := by
  induction n generalizing as vs with
  | zero => simpa using h
  | succ n ih =>
    cases as with
    | nil => cases h; exact .nil
    | cons a as => obtain ⟨v, vs, rfl, _, h2⟩ := h.cons_inv; simpa using ih h2

theorem VRs.take {φ : Emb} {as vs} (h : VRs φ as vs) (n : Nat) : VRs φ (as.take n) (vs.take n) := by
  induction n generalizing as vs with
  | zero => simpa using VRs.nil
  | succ n ih =>
    cases as with
    | nil => cases h; exact .nil
    | cons a as => obtain ⟨v, vs, rfl, h1, h2⟩ := h.cons_inv; simpa using VRs.cons h1 (ih h2)

theorem VRs.set {φ : Emb} {as vs a v} (h : VRs φ as vs) (k : VR φ a v) (n : Nat) : VRs φ (as.set n a) (vs.set n v) := by
  induction as generalizing vs n with
  | nil => cases h; simpa using VRs.nil
  | cons b as ih =>
    obtain ⟨u, vs, rfl, h1, h2⟩ := h.cons_inv
    cases n with
    | zero => simpa using VRs.cons k h2
    | succ n => simpa using VRs.cons h1 (ih h2 n)

theorem VRs.undefs {φ : Emb} : ∀ vs : List Value, VRs φ (List.replicate vs.length .undef) vs
  | [] => .nil
  | v :: vs => .undef v (VRs.undefs vs)

theorem VRs.replicate {φ : Emb} {a v} (h : VR φ a v) : ∀ n, VRs φ (List.replicate n a) (List.replicate n v)
  | 0 => .nil
  | n + 1 => .cons h (VRs.replicate h n)

/-! ### Inversion -/
section
variable {φ : Emb} {v : Value}
theorem VR.bool_inv {b} (h : VR φ (.bool b) v) : v = .bool b := by cases h; rfl
theorem VR.int_inv {k n} (h : VR φ (.int k n) v) : v = .int k n := by cases h; rfl
theorem VR.str_inv {s} (h : VR φ (.str s) v) : v = .string ⟨s.toArray⟩ := by cases h; rfl
theorem VR.nilp_inv (h : VR φ .nilp v) : v = .pointer none := by cases h; rfl
theorem VR.nils_inv (h : VR φ .nils v) : v = .slice none 0 0 := by cases h; rfl
theorem VR.nilf_inv (h : VR φ .nilf v) : v = .nilFunc := by cases h; rfl
theorem VR.nili_inv (h : VR φ .nili v) : v = .nilIface := by cases h; rfl
theorem VR.ptr_inv {i o} (h : VR φ (.ptr i o) v) : ∃ p s m, φ i = some (p, s, m) ∧ v = .pointer (some ⟨p, s + o, none⟩) := by cases h; exact ⟨_, _, _, ‹_›, rfl⟩
theorem VR.sl_inv {i o z n c} (h : VR φ (.sl i o z n c) v) : (∃ p s m cc, φ i = some (p, s, m) ∧ (∀ r, m = some r → s + o + cc * z ≤ r) ∧ n ≤ cc ∧ (∀ d, c = some d → cc = d) ∧ v = .slice (some ⟨p, s + o, none⟩) n cc) ∨
    (n = 0 ∧ (∀ d, c = some d → 0 = d) ∧ ∃ a, v = .slice (some a) 0 0) := by
  cases h
  · exact .inl ⟨_, _, _, _, ‹_›, ‹_›, ‹_›, ‹_›, rfl⟩
  · exact .inr ⟨rfl, ‹_›, _, rfl⟩
theorem VR.esl_inv (h : VR φ .esl v) : ∃ a cc, v = .slice (some a) 0 cc := by cases h; exact ⟨_, _, rfl⟩
theorem VR.func_inv {f cs} (h : VR φ (.func f cs) v) : ∃ ds : Array Value, VRs φ cs ds.toList ∧ v = .func (.func f) #[] ds := by cases h; exact ⟨_, ‹_›, rfl⟩
theorem VR.iface_inv {t a} (h : VR φ (.iface t a) v) : ∃ u, VR φ a u ∧ v = .iface t u := by cases h; exact ⟨_, ‹_›, rfl⟩
theorem VR.agg_inv {cs} (h : VR φ (.agg cs) v) : ∃ ds : Array Value, VRs φ cs ds.toList ∧ v = .agg ds := by cases h; exact ⟨_, ‹_›, rfl⟩
theorem VR.tup_inv {cs} (h : VR φ (.tup cs) v) : ∃ ds : Array Value, VRs φ cs ds.toList ∧ v = .tuple ds := by cases h; exact ⟨_, ‹_›, rfl⟩
end

theorem VR.bool {φ : Emb} (b : Bool) : VR φ (.bool b) (.bool b) := VRs.bool b .nil
theorem VR.int {φ : Emb} (k : IntKind) (n : Int) : VR φ (.int k n) (.int k n) := VRs.int k n .nil
theorem VR.str {φ : Emb} (s : List UInt8) : VR φ (.str s) (.string ⟨s.toArray⟩) := VRs.str s .nil
theorem VR.undef {φ : Emb} (v : Value) : VR φ .undef v := VRs.undef v .nil
theorem VR.tupn {φ : Emb} : VR φ (.tup []) Go.undef := VRs.tup (ds := #[]) .nil .nil
theorem VR.ptr {φ : Emb} {i o p s m} (h : φ i = some (p, s, m)) : VR φ (.ptr i o) (.pointer (some ⟨p, s + o, none⟩)) := VRs.ptr h .nil
theorem VR.agg {φ : Emb} {cs} {ds : Array Value} (h : VRs φ cs ds.toList) : VR φ (.agg cs) (.agg ds) := VRs.agg h .nil
theorem VR.tup {φ : Emb} {cs} {ds : Array Value} (h : VRs φ cs ds.toList) : VR φ (.tup cs) (.tuple ds) := VRs.tup h .nil

theorem ofV1_ok {φ : Emb} {v a} (h : ofV1 v = some a) : VR φ a v := by
  cases v with
  | bool b => simp [ofV1] at h; subst h; exact .bool b
  | int k n => simp [ofV1] at h; subst h; exact .int k n
  | string s => simp [ofV1] at h; subst h; have : VR φ (.str s.data.toList) (.string ⟨s.data.toList.toArray⟩) := .str _; simpa using this
  | pointer a => cases a <;> simp [ofV1] at h; subst h; exact VRs.nilp .nil
  | slice a n c =>
    cases a with
    | some _ => simp [ofV1] at h
    | none =>
      cases n with
      | succ _ => simp [ofV1] at h
      | zero => cases c with
        | succ _ => simp [ofV1] at h
        | zero => simp [ofV1] at h; subst h; exact VRs.nils .nil
  | nilFunc => simp [ofV1] at h; subst h; exact VRs.nilf .nil
  | nilIface => simp [ofV1] at h; subst h; exact VRs.nili .nil
  | _ => simp [ofV1] at h

theorem ofVs_ok {φ : Emb} : ∀ {vs as}, ofVs vs = some as → VRs φ as vs
  | [], as, h => by simp [ofVs] at h; subst h; exact .nil
  | v :: vs, as, h => by
    simp only [ofVs] at h
    split at h
    · rename_i a as' h1 h2
      simp at h; subst h
      exact .cons (ofV1_ok h1) (ofVs_ok h2)
    · simp at h

theorem ofV_ok {φ : Emb} {v a} (h : ofV v = some a) : VR φ a v := by
  cases v with
  | agg cs =>
    simp only [ofV, Option.map_eq_some_iff] at h
    obtain ⟨as, h1, rfl⟩ := h
    exact .agg (ofVs_ok h1)
  | _ => exact ofV1_ok h

theorem cells_ok {φ : Emb} {a v cs} (h : VR φ a v) (hc : a.cells? = some cs) : VRs φ cs v.cells.toList := by
  cases a with
  | agg l => simp [AV.cells?] at hc; subst hc; obtain ⟨ds, h1, rfl⟩ := h.agg_inv; exact h1
  | undef => simp [AV.cells?] at hc
  | tup _ => simp [AV.cells?] at hc
  | bool b => simp [AV.cells?] at hc; subst hc; obtain rfl := h.bool_inv; exact h
  | int k n => simp [AV.cells?] at hc; subst hc; obtain rfl := h.int_inv; exact h
  | str s => simp [AV.cells?] at hc; subst hc; obtain rfl := h.str_inv; exact h
  | nilp => simp [AV.cells?] at hc; subst hc; obtain rfl := h.nilp_inv; exact h
  | nils => simp [AV.cells?] at hc; subst hc; obtain rfl := h.nils_inv; exact h
  | nilf => simp [AV.cells?] at hc; subst hc; obtain rfl := h.nilf_inv; exact h
  | nili => simp [AV.cells?] at hc; subst hc; obtain rfl := h.nili_inv; exact h
  | ptr i o => simp [AV.cells?] at hc; subst hc; obtain ⟨_, _, _, _, rfl⟩ := h.ptr_inv; exact h
  | sl i o z n c => simp [AV.cells?] at hc; subst hc; rcases h.sl_inv with ⟨_, _, _, _, _, _, _, _, rfl⟩ | ⟨_, _, _, rfl⟩ <;> exact h
  | esl => simp [AV.cells?] at hc; subst hc; obtain ⟨_, _, rfl⟩ := h.esl_inv; exact h
  | func f l => simp [AV.cells?] at hc; subst hc; obtain ⟨_, _, rfl⟩ := h.func_inv; exact h
  | iface t b => simp [AV.cells?] at hc; subst hc; obtain ⟨_, _, rfl⟩ := h.iface_inv; exact h

theorem solid_ok {φ : Emb} {a v} (h : VR φ a v) (hs : solid a = true) : v.oneCell' = true := by
  cases h <;> first | rfl | simp [solid] at hs

/-! ### Lists with names -/
section
variable {α : Type}
theorem lk_rpl (l : List (Nat × α)) (i j : Nat) (b : α) : lk (rpl l i b) j = if j = i then (lk l i).map (fun _ => b) else lk l j := by
  induction l with
  | nil => simp [lk, rpl]
  | cons p l ih =>
    obtain ⟨k, a⟩ := p
    by_cases hk : k = i
    · subst hk
      by_cases hj : j = k
      · subst hj; simp [rpl, lk]
      · have : ¬ k = j := fun e => hj e.symm
        simp [rpl, lk, hj, this]
    · by_cases hj : j = i
      · subst hj
        simp only [rpl, hk, if_false, lk, ih, if_true]
      · by_cases hkj : k = j
        · subst hkj; simp [rpl, hk, lk]
        · simp [rpl, hk, lk, hkj, ih, hj]

theorem lk_del (l : List (Nat × α)) (i j : Nat) : lk (del l i) j = if j = i then none else lk l j := by
  induction l with
  | nil => simp [lk, del]
  | cons p l ih =>
    obtain ⟨k, a⟩ := p
    by_cases hk : k = i
    · subst hk
      by_cases hj : j = k
      · subst hj; simp [del, ih]
      · have : ¬ k = j := fun e => hj e.symm
        simp [del, lk, hj, this, ih]
    · by_cases hkj : k = j
      · subst hkj; simp [del, hk, lk]
      · simp [del, hk, lk, hkj, ih]

theorem lk_append (l m : List (Nat × α)) (j : Nat) : lk (l ++ m) j = (lk l j).or (lk m j) := by
  induction l with
  | nil => simp [lk]
  | cons p l ih => obtain ⟨k, a⟩ := p; by_cases h : k = j <;> simp [lk, h, ih]

theorem lk_filter (l : List (Nat × α)) (q : Nat → Bool) (j : Nat) : lk (l.filter fun p => q p.1) j = if q j then lk l j else none := by
  induction l with
  | nil => simp [lk]
  | cons p l ih =>
    obtain ⟨k, a⟩ := p
    by_cases hq : q k
    · by_cases hk : k = j
      · subst hk; simp [lk, hq]
      · simp [hq, lk, hk, ih]
    · by_cases hk : k = j
      · subst hk; simp [hq, ih]
      · simp [hq, lk, hk, ih]
end

/-! ### The heap and the world -/

/-- What a run begins with: how many blocks of memory are not its own, how many variables of packages there are, which of these are tables, and what else is known of the memory that is not its own. -/
structure Base where
  n : Nat
  G : Nat
  T : List (Nat × Blk)
  K : World → Prop
  keep : ∀ w w' : World, (∀ p, p < n → w'.heap[p]? = w.heap[p]?) → n ≤ w'.heap.size → K w → K w'

def glob (G : Nat) : Emb := fun i => if i < G then some (i, 0, none) else none

/-- The tables hold what they hold. -/
def Knows (B : Base) (w : World) : Prop := (B.K w ∧ B.n ≤ w.heap.size) ∧ ∀ i b, lk B.T i = some b → b.ro = true ∧ i < B.n ∧ i < B.G ∧ ∀ (j : Nat) (v : AV), b.cells[j]? = some v → ∃ v', w.cell? ⟨i, j, none⟩ = some v' ∧ VR (glob B.G) v v'

theorem Knows.keep {B : Base} {w w' : World} (h : Knows B w) (k : ∀ p, p < B.n → w'.heap[p]? = w.heap[p]?) (hs : B.n ≤ w'.heap.size) : Knows B w' := ⟨⟨B.keep w w' k hs h.1.1, hs⟩, fun i b hb => by
  obtain ⟨h1, h2, h3, h4⟩ := h.2 i b hb
  refine ⟨h1, h2, h3, fun j v hj => ?_⟩
  obtain ⟨v', h5, h6⟩ := h4 j v hj
  exact ⟨v', by rw [World.cell?_of_block (w := w) (a := ⟨i, j, none⟩) (k i h2)]; exact h5, h6⟩⟩

structure BR (B : Base) (φ : Emb) (w : World) (b : Blk) (p s : Nat) (m : Option Nat) : Prop where
  ro : b.ro = true → p < B.n ∧ m = none
  own : b.ro = false → B.n ≤ p ∧ ∃ r, m = some r ∧ w.shape? p = some (b.ty, r) ∧ s + b.cells.length ≤ r ∧ (b.wh = true → s = 0 ∧ r = b.cells.length) ∧ (b.s0 = true → s = 0) ∧ ∀ j, s ≤ j → j < r → w.frozen? ⟨p, j, none⟩ = false
  cell : ∀ j v, b.cells[j]? = some v → ∃ v', w.cell? ⟨p, s + j, none⟩ = some v' ∧ VR φ v v'

structure Rel (B : Base) (φ : Emb) (H : AH) (w : World) : Prop where
  know : Knows B w
  hB : B.n ≤ w.heap.size
  live : ∀ i b, H.get i = some b → i < H.next
  fl : H.floor ≤ H.next
  blk : ∀ i b, H.get i = some b → ∃ p s m, φ i = some (p, s, m) ∧ BR B φ w b p s m
  inj : ∀ i j b c p s m q t n, H.get i = some b → H.get j = some c → b.ro = false → c.ro = false → φ i = some (p, s, m) → φ j = some (q, t, n) → i ≠ j → (H.floor ≤ i ∨ H.floor ≤ j) → p ≠ q

/-- A block of memory that may be written. -/
def Foot (φ : Emb) (H : AH) (p : Nat) : Prop := ∃ i b s m, H.floor ≤ i ∧ H.get i = some b ∧ b.ro = false ∧ φ i = some (p, s, m)

/-- What a step leaves. -/
structure Step (B : Base) (φ : Emb) (H : AH) (w : World) (ψ : Emb) (H' : AH) (w' : World) : Prop where
  rel : Rel B ψ H' w'
  emb : ∀ i, i < H.next ∨ H'.next ≤ i → ψ i = φ i
  nxt : H.next ≤ H'.next
  flo : H'.floor = H.floor
  old : ∀ i, i < H.floor → H'.get i = H.get i
  sub : ∀ i b, i < H.next → H'.get i = some b → ∃ c, H.get i = some c ∧ c.ro = b.ro
  os : w'.os = w.os
  tape : w'.tape = w.tape
  output : w'.output = w.output
  size : w.heap.size ≤ w'.heap.size
  frame : ∀ p, p < w.heap.size → ¬ Foot φ H p → w'.heap[p]? = w.heap[p]?
  foot : ∀ p, Foot ψ H' p → Foot φ H p ∨ w.heap.size ≤ p

def Free (φ : Emb) (a b : Nat) : Prop := ∀ i, a ≤ i → i < b → φ i = none

theorem Free.mono {φ : Emb} {a b c d : Nat} (h : Free φ a b) (h1 : a ≤ c) (h2 : d ≤ b) : Free φ c d := fun i hi hj => h i (by omega) (by omega)

theorem Step.le {B φ H w ψ H' w'} (h : Step B φ H w ψ H' w') (hf : Free φ H.next H'.next) : φ.le ψ := by
  intro i x hx
  by_cases h1 : i < H.next
  · rw [h.emb i (.inl h1)]; exact hx
  · by_cases h2 : H'.next ≤ i
    · rw [h.emb i (.inr h2)]; exact hx
    · rw [hf i (by omega) (by omega)] at hx; cases hx

theorem Step.refl {B φ H w} (h : Rel B φ H w) : Step B φ H w φ H w :=
  ⟨h, fun _ _ => rfl, Nat.le_refl _, rfl, fun _ _ => rfl, fun _ b _ hb => ⟨b, hb, rfl⟩, rfl, rfl, rfl, Nat.le_refl _, fun _ _ _ => rfl, fun _ hp => .inl hp⟩

theorem Step.trans {B φ H w ψ H1 w1 χ H2 w2} (h : Step B φ H w ψ H1 w1) (k : Step B ψ H1 w1 χ H2 w2) : Step B φ H w χ H2 w2 where
  rel := k.rel
  emb := fun i hi => by
    have a := h.nxt; have b := k.nxt
    rw [k.emb i (by omega), h.emb i (by omega)]
  nxt := Nat.le_trans h.nxt k.nxt
  flo := k.flo.trans h.flo
  old := fun i hi => (k.old i (by rw [h.flo]; exact hi)).trans (h.old i hi)
  sub := fun i b hi hb => by
    obtain ⟨c, hc, e⟩ := k.sub i b (Nat.lt_of_lt_of_le hi h.nxt) hb
    obtain ⟨d, hd, e'⟩ := h.sub i c hi hc
    exact ⟨d, hd, e'.trans e⟩
  os := k.os.trans h.os
  tape := k.tape.trans h.tape
  output := k.output.trans h.output
  size := Nat.le_trans h.size k.size
  frame := fun p hp hn => by
    have hs := h.size
    rw [k.frame p (by omega) (fun hf => by rcases h.foot p hf with h' | h'; exact hn h'; omega), h.frame p hp hn]
  foot := fun p hp => by
    rcases k.foot p hp with h' | h'
    · exact h.foot p h'
    · have := h.size; exact .inr (by omega)

theorem Step.free {B φ H w ψ H' w'} (h : Step B φ H w ψ H' w') {n : Nat} (hf : Free φ H.next n) : Free ψ H'.next n := fun i hi hj => by
  rw [h.emb i (.inr hi)]; exact hf i (Nat.le_trans h.nxt hi) hj

/-- Below B nothing has turned. -/
theorem Step.below {B φ H w ψ H' w'} (hr : Rel B φ H w) (h : Step B φ H w ψ H' w') : Below B.n w w' where
  os := h.os
  tape := h.tape
  output := h.output
  size := h.size
  block := fun k hk => h.frame k (by have := hr.hB; omega) fun ⟨i, b, s, m, _, hb, ho, hi⟩ => by
    obtain ⟨p, s', m', e, br⟩ := hr.blk i b hb
    rw [hi] at e
    simp at e
    have := (br.own ho).1
    omega

/-! ### Worlds that hold the same memory -/

def Alike (w w' : World) : Prop := w'.heap = w.heap ∧ w'.os = w.os ∧ w'.tape = w.tape ∧ w'.output = w.output
theorem Alike.refl (w : World) : Alike w w := ⟨rfl, rfl, rfl, rfl⟩
theorem Alike.drew (w : World) : Alike w w.drew := ⟨rfl, rfl, rfl, rfl⟩
theorem Alike.trans {a b c : World} (h : Alike a b) (k : Alike b c) : Alike a c := ⟨k.1.trans h.1, k.2.1.trans h.2.1, k.2.2.1.trans h.2.2.1, k.2.2.2.trans h.2.2.2⟩

theorem Alike.cell {w w' : World} (h : Alike w w') (a : Addr) : w'.cell? a = w.cell? a := by simp [World.cell?, h.1]
theorem Alike.frozen {w w' : World} (h : Alike w w') (a : Addr) : w'.frozen? a = w.frozen? a := by simp [World.frozen?, h.1]
theorem Alike.shape {w w' : World} (h : Alike w w') (a : Nat) : w'.shape? a = w.shape? a := by simp [World.shape?, h.1]

theorem Rel.alike {B φ H w w'} (h : Rel B φ H w) (k : Alike w w') : Rel B φ H w' where
  know := h.know.keep (fun p _ => by rw [k.1]) (by rw [k.1]; exact h.hB)
  hB := by rw [k.1]; exact h.hB
  live := h.live
  fl := h.fl
  blk := fun i b hb => by
    obtain ⟨p, s, m, e, br⟩ := h.blk i b hb
    refine ⟨p, s, m, e, br.ro, fun ho => ?_, fun j v hj => ?_⟩
    · obtain ⟨h1, r, h2, h3, h4, h5, h7, h6⟩ := br.own ho
      exact ⟨h1, r, h2, by rw [k.shape]; exact h3, h4, h5, h7, fun j a b => by rw [k.frozen]; exact h6 j a b⟩
    · rw [k.cell]; exact br.cell j v hj
  inj := h.inj

theorem Step.alike {B φ H w w'} (h : Rel B φ H w) (k : Alike w w') : Step B φ H w φ H w' :=
  ⟨h.alike k, fun _ _ => rfl, Nat.le_refl _, rfl, fun _ _ => rfl, fun _ b _ hb => ⟨b, hb, rfl⟩, k.2.1, k.2.2.1, k.2.2.2, by rw [k.1]; exact Nat.le_refl _, fun _ _ _ => by rw [k.1], fun _ hp => .inl hp⟩

/-! ### A new block -/

def Emb.upd (φ : Emb) (i : Nat) (x : Nat × Nat × Option Nat) : Emb := fun j => if j = i then some x else φ j
theorem Emb.upd_same (φ : Emb) (i x) : φ.upd i x i = some x := by simp [Emb.upd]
theorem Emb.upd_other (φ : Emb) (i x) {j} (h : j ≠ i) : φ.upd i x j = φ j := by simp [Emb.upd, h]
theorem Emb.le_upd {φ : Emb} {i} (x) (h : φ i = none) : φ.le (φ.upd i x) := fun j y hy => by
  by_cases e : j = i
  · subst e; rw [h] at hy; cases hy
  · rw [Emb.upd_other _ _ _ e]; exact hy

theorem shape_alloc_new (w : World) (cs : Array Value) (ty : TypeId) : (w.alloc (.cells cs ty)).shape? w.heap.size = some (ty, cs.size) := by
  simp only [World.shape?, World.alloc, Array.getElem?_push, if_true]
theorem shape_alloc_old (w : World) (o : Obj) {p : Nat} (h : p < w.heap.size) : (w.alloc o).shape? p = w.shape? p := by
  simp only [World.shape?, World.alloc, Array.getElem?_push]
  rw [if_neg (by omega)]
theorem shape_lt {w : World} {p : Nat} {x} (h : w.shape? p = some x) : p < w.heap.size := by
  unfold World.shape? at h
  rcases Nat.lt_or_ge p w.heap.size with h' | h'
  · exact h'
  · simp [Array.getElem?_eq_none h'] at h

theorem get_push {H : AH} {ty wh cs} (i : Nat) : (H.push ty wh cs).get i = if i = H.next then some ⟨cs, false, ty, wh, true⟩ else H.get i := by
  by_cases h : i = H.next
  · subst h; simp [AH.push, AH.get, lk]
  · have : ¬ H.next = i := fun e => h e.symm
    simp [AH.push, AH.get, lk, h, this]

theorem Rel.lt_heap {B φ H w} (h : Rel B φ H w) {i b p s m} (hb : H.get i = some b) (ho : b.ro = false) (e : φ i = some (p, s, m)) : p < w.heap.size := by
  obtain ⟨p', s', m', e', br⟩ := h.blk i b hb
  rw [e] at e'; simp at e'; obtain ⟨rfl, rfl, rfl⟩ := e'
  obtain ⟨_, r, _, h3, _⟩ := br.own ho
  exact shape_lt h3

/-- The blocks that are there stay as they were when a world changes in none of theirs. -/
theorem BR.keep {B φ ψ w w' b p s m} (h : BR B φ w b p s m) (hl : φ.le ψ) (hp : w'.heap[p]? = w.heap[p]?) : BR B ψ w' b p s m where
  ro := h.ro
  own := fun ho => by
    obtain ⟨h1, r, h2, h3, h4, h5, h7, h6⟩ := h.own ho
    exact ⟨h1, r, h2, by simpa [World.shape?, hp] using h3, h4, h5, h7, fun j a b => by rw [World.frozen?_of_block (w := w) (a := ⟨p, j, none⟩) hp]; exact h6 j a b⟩
  cell := fun j v hj => by
    obtain ⟨v', e, hv⟩ := h.cell j v hj
    exact ⟨v', by rw [World.cell?_of_block (w := w) (a := ⟨p, s + j, none⟩) hp]; exact e, hv.mono hl⟩

theorem heap_alloc_lt (w : World) (o : Obj) {p : Nat} (h : p < w.heap.size) : (w.alloc o).heap[p]? = w.heap[p]? := Below.heap_alloc w o p h

theorem mark_get (w : World) (C : Array Value) (t : TypeId) (fr : Nat × Nat) : (w.alloc (.cells C t fr)).heap[w.heap.size]? = some (.cells C t fr) := by
  show (w.heap.push (.cells C t fr))[w.heap.size]? = _
  simp

/-- A new block of memory, whatever its mark, behind draws. -/
theorem Step.pushW {B φ H w} (h : Rel B φ H w) (ty : TypeId) (wh : Bool) (cs : List AV) (ds : Array Value) (fz : Nat × Nat) (hf : φ H.next = none)
    (hc : ∀ (j : Nat) (v : AV), cs[j]? = some v → ∃ v', ds[j]? = some v' ∧ VR φ v v') (hl : cs.length ≤ ds.size) (hw : wh = true → ds.size = cs.length) (hz : ∀ j, j < ds.size → ¬ (fz.1 ≤ j ∧ j < fz.2))
    {w' : World} (hnew : w'.heap[w.heap.size]? = some (.cells ds ty fz)) (hold : ∀ p, p < w.heap.size → w'.heap[p]? = w.heap[p]?) (hsize : w'.heap.size = w.heap.size + 1) (hos : w'.os = w.os) (htp : w'.tape = w.tape) (hou : w'.output = w.output) :
    Step B φ H w (φ.upd H.next (w.heap.size, 0, some ds.size)) (H.push ty wh cs) w' := by
  have hle := Emb.le_upd (w.heap.size, 0, some ds.size) hf
  have ne : ∀ {i b}, H.get i = some b → i ≠ H.next := fun hb e => by have := h.live _ _ hb; omega
  refine ⟨⟨h.know.keep (fun p hp => hold p (Nat.lt_of_lt_of_le hp h.hB)) (by have := h.hB; omega), ?_, ?_, ?_, ?_, ?_⟩, ?_, ?_, rfl, ?_, ?_, hos, htp, hou, ?_, ?_, ?_⟩
  · have := h.hB; omega
  · intro i b hb
    rw [get_push] at hb
    show i < H.next + 1
    split at hb
    · omega
    · have := h.live i b hb; omega
  · have := h.fl; show H.floor ≤ H.next + 1; omega
  · intro i b hb
    rw [get_push] at hb
    split at hb
    · rename_i e
      subst e
      simp at hb
      subst hb
      refine ⟨w.heap.size, 0, some ds.size, Emb.upd_same _ _ _, fun e => by simp at e, fun _ => ⟨h.hB, ds.size, rfl, by simp [World.shape?, hnew], by simpa using hl, fun e => ⟨rfl, hw e⟩, fun _ => rfl, fun j _ hj => ?_⟩, fun j v hj => ?_⟩
      · have := hz j hj
        simp only [World.frozen?, hnew]
        rw [Bool.eq_false_iff]
        simpa using this
      · obtain ⟨v', e, hv⟩ := hc j v hj
        exact ⟨v', by simp [World.cell?, hnew, e], hv.mono hle⟩
    · obtain ⟨p, s, m, e, br⟩ := h.blk i b hb
      refine ⟨p, s, m, by rw [Emb.upd_other _ _ _ (ne hb)]; exact e, br.keep hle (hold p ?_)⟩
      cases hro : b.ro with
      | true => have := (br.ro hro).1; have := h.hB; omega
      | false => exact h.lt_heap hb hro e
  · intro i j b c p s m q t n hi hj hb hc' e1 e2 hij hfl
    rw [get_push] at hi hj
    split at hi
    · rename_i ei
      subst ei
      rw [if_neg (Ne.symm hij)] at hj
      rw [Emb.upd_same] at e1
      rw [Emb.upd_other _ _ _ (ne hj)] at e2
      have := h.lt_heap hj hc' e2
      simp at e1
      omega
    · split at hj
      · rename_i ej
        subst ej
        rw [Emb.upd_same] at e2
        rw [Emb.upd_other _ _ _ (ne hi)] at e1
        have := h.lt_heap hi hb e1
        simp at e2
        omega
      · rw [Emb.upd_other _ _ _ (ne hi)] at e1
        rw [Emb.upd_other _ _ _ (ne hj)] at e2
        exact h.inj i j b c p s m q t n hi hj hb hc' e1 e2 hij hfl
  · intro i hi
    refine Emb.upd_other _ _ _ ?_
    have : (H.push ty wh cs).next = H.next + 1 := rfl
    omega
  · show H.next ≤ H.next + 1; omega
  · intro i hi
    rw [get_push, if_neg]
    have := h.fl
    omega
  · intro i b hi hb
    rw [get_push, if_neg (by omega)] at hb
    exact ⟨b, hb, rfl⟩
  · omega
  · intro p hp _
    exact hold p hp
  · rintro p ⟨i, b, s, m, hi, hb, ho, e⟩
    rw [get_push] at hb
    split at hb
    · rename_i ei
      subst ei
      rw [Emb.upd_same] at e
      simp at e
      exact .inr (by omega)
    · rw [Emb.upd_other _ _ _ (ne hb)] at e
      exact .inl ⟨i, b, s, m, hi, hb, ho, e⟩

theorem Step.push {B φ H w} (h : Rel B φ H w) (ty : TypeId) (wh : Bool) (cs : List AV) (ds : Array Value) (hf : φ H.next = none)
    (hc : ∀ (j : Nat) (v : AV), cs[j]? = some v → ∃ v', ds[j]? = some v' ∧ VR φ v v') (hl : cs.length ≤ ds.size) (hw : wh = true → ds.size = cs.length) :
    Step B φ H w (φ.upd H.next (w.heap.size, 0, some ds.size)) (H.push ty wh cs) (w.alloc (.cells ds ty)) :=
  Step.pushW h ty wh cs ds (0, 0) hf hc hl hw (fun j _ hj => by omega) (mark_get w ds ty (0, 0)) (fun p hp => heap_alloc_lt _ _ hp) (by simp) rfl rfl rfl

end Go.Am
