/-
Rows of one's own that grow. Conditions: those that each theorem names.
-/
import Derived.Test.YtjpppajbhpbkiaaDoorAm33
set_option linter.unusedSimpArgs false
set_option linter.unusedVariables false
namespace Go.Am

/-! ### Operations of a drawn region that make no block leave no trace -/

def SegEq (s t : List (Nat × List (Nat × Blk))) : Prop := ∀ p : Nat × List (Nat × Blk) → Bool, (s.filter p).flatMap (·.2) = (t.filter p).flatMap (·.2)
theorem SegEq.flat {s t : List (Nat × List (Nat × Blk))} (h : SegEq s t) : s.flatMap (·.2) = t.flatMap (·.2) := by
  have h1 := h fun _ => true
  rw [List.filter_eq_self.2 (fun _ _ => rfl), List.filter_eq_self.2 (fun _ _ => rfl)] at h1
  exact h1
theorem SegEq.cons {s t : List (Nat × List (Nat × Blk))} (h : SegEq s t) (x : Nat × List (Nat × Blk)) : SegEq (x :: s) (x :: t) := fun p => by
  simp only [List.filter_cons]
  split
  · simp only [List.flatMap_cons, h p]
  · exact h p
theorem SegEq.vis {s t : List (Nat × List (Nat × Blk))} (h : SegEq s t) (kind : Nat) (deps : List Nat) (base : AH) (next : Nat) : visH kind deps base s next = visH kind deps base t next := by
  unfold visH
  split
  · rfl
  · rw [h]
  · rw [h.flat]

theorem Dg0_seg (call : Call) (K : AX → St → Prop) (ks : List Fr) (l : List Nat) : ∀ (os : List DIns) (j : Nat) (e : Env) (base : AH) (s t : List (Nat × List (Nat × Blk))) (next : Nat), SegEq s t → Dg0 call K ks l os j e base s next = Dg0 call K ks l os j e base t next
  | [], j, e, base, s, t, next, h => by simp only [Dg0, h.flat]
  | o :: os, j, e, base, s, t, next, h => by
    have i0 : ∀ j e base next, Dg0 call K ks l os j e base s next = Dg0 call K ks l os j e base t next := fun j e base next => Dg0_seg call K ks l os j e base s t next h
    have i1 : ∀ j e base x next, Dg0 call K ks l os j e base (x :: s) next = Dg0 call K ks l os j e base (x :: t) next := fun j e base x next => Dg0_seg call K ks l os j e base _ _ next (h.cons x)
    simp only [Dg0, h.vis, i0, i1]

theorem Dg0_drop (call : Call) (K : AX → St → Prop) (ks : List Fr) (l : List Nat) (os : List DIns) (i j : Nat) (e : Env) (base : AH) (s : List (Nat × List (Nat × Blk))) (next : Nat) : Dg0 call K ks l os j e base ((i, []) :: s) next = Dg0 call K ks l os j e base s next :=
  Dg0_seg call K ks l os j e base _ _ next fun p => by
    simp only [List.filter_cons]
    split <;> simp

theorem Dg_drop (call : Call) (K : AX → St → Prop) (ks : List Fr) (l : List Nat) (os : List DIns) (i j : Nat) (e : Env) (base : AH) (s : List (Nat × List (Nat × Blk))) (next : Nat) : Dg call K ks l os j e base ((i, []) :: s) next = Dg call K ks l os j e base s next := by
  rw [Dg_eq, Dg_eq]; exact Dg0_drop ..

theorem AH.eta (H : AH) : (⟨H.blks, H.next, H.floor⟩ : AH) = H := rfl

/-- Block q of one's own holds n elements of z cells. -/
def Own (H : AH) (ty z q n : Nat) (c : Option Nat) (cs : List AV) : Prop :=
  0 < z ∧ cs.length = n * z ∧ (c = some n ∨ c = none) ∧ H.floor ≤ q ∧ q < H.next ∧ ∃ wh s0, H.get q = some ⟨cs, false, ty, wh, s0⟩

/-- What stays: the floor, and the blocks other than q. -/
def Stay (H H' : AH) (q : Nat) : Prop := H'.floor = H.floor ∧ H.next ≤ H'.next ∧ ∀ i, i < H.next → i ≠ q → H'.get i = H.get i

theorem Stay.trans {H H1 H2 : AH} {q q1 : Nat} (h1 : Stay H H1 q) (h2 : Stay H1 H2 q1) (hq : H.next ≤ q1 ∨ q1 = q) : Stay H H2 q :=
  ⟨h2.1.trans h1.1, Nat.le_trans h1.2.1 h2.2.1, fun i hi hn => (h2.2.2 i (by have := h1.2.1; omega) (by omega)).trans (h1.2.2 i hi hn)⟩
theorem Stay.push (H : AH) (ty : TypeId) (wh : Bool) (cs : List AV) (q : Nat) : Stay H (H.push ty wh cs) q :=
  ⟨rfl, Nat.le_succ _, fun _ hi _ => get_push_old _ _ _ _ hi⟩
theorem Stay.refl (H : AH) (q : Nat) : Stay H H q := ⟨rfl, Nat.le_refl _, fun _ _ _ => rfl⟩

theorem cellsAt_new (H : AH) (ty : TypeId) (wh : Bool) (cs : List AV) {n : Nat} (h : cs.length = n) : (H.push ty wh cs).cellsAt H.next 0 n = some cs := by
  unfold AH.cellsAt
  rw [get_push_new]
  simp [h]
  exact List.take_of_length_le (by omega)

theorem Own.cells {H : AH} {ty z q n : Nat} {c : Option Nat} {cs : List AV} (h : Own H ty z q n c cs) : H.cellsAt q 0 (n * z) = some cs := by
  obtain ⟨hz, hl, hc, hf, hn, wh, s0, hq⟩ := h
  unfold AH.cellsAt
  rw [hq]
  simp only [Nat.zero_add, hl, Nat.le_refl, if_true, List.drop_zero]
  rw [List.take_of_length_le (by omega)]

theorem Own.push {H : AH} {ty z q n : Nat} {c : Option Nat} {cs : List AV} (h : Own H ty z q n c cs) (ty' : TypeId) (wh : Bool) (cs' : List AV) : Own (H.push ty' wh cs') ty z q n c cs := by
  obtain ⟨hz, hl, hc, hf, hn, wh', s0, hq⟩ := h
  exact ⟨hz, hl, hc, hf, Nat.lt_succ_of_lt hn, wh', s0, (get_push_old _ _ _ _ hn).trans hq⟩

theorem Own.stay {H H' : AH} {ty z q n q' : Nat} {c : Option Nat} {cs : List AV} (h : Own H ty z q n c cs) (hs : Stay H H' q') (hq : q ≠ q') : Own H' ty z q n c cs := by
  obtain ⟨hz, hl, hc, hf, hn, wh', s0, hg⟩ := h
  exact ⟨hz, hl, hc, by rw [hs.1]; exact hf, Nat.lt_of_lt_of_le hn hs.2.1, wh', s0, (hs.2.2 q hn hq).trans hg⟩

theorem own_new (H : AH) (ty : TypeId) (wh : Bool) (cs : List AV) {z n : Nat} (c : Option Nat) (hz : 0 < z) (hl : cs.length = n * z) (hc : c = some n ∨ c = none) (hf : H.floor ≤ H.next) : Own (H.push ty wh cs) ty z H.next n c cs :=
  ⟨hz, hl, hc, hf, Nat.lt_succ_self _, wh, true, get_push_new _ _ _ _⟩

theorem Own.app {H : AH} {ty z q n : Nat} {c : Option Nat} {cs : List AV} (h : Own H ty z q n c cs) (b : Nat) {new : List AV} {m : Nat} (hne : new ≠ []) (hm : new.length = m * z) (hb : (n + m) * (b + 1) ≤ 140737488355328) :
    ∃ q' H', aapp H ty z b (.sl q 0 z n c) new = some (.ok (.sl q' 0 z (n + m) none), H') ∧ Own H' ty z q' (n + m) none (cs ++ new) ∧ Stay H H' q ∧ H.next ≤ q' := by
  have hcells := h.cells
  obtain ⟨hz, hl, hc, hf, hn, wh, s0, hq⟩ := h
  have h1 : new.length / z = m := by rw [hm]; exact Nat.mul_div_cancel _ hz
  have h2 : new.length % z = 0 := by rw [hm]; exact Nat.mul_mod_left _ _
  have h3 : (cs ++ new).length = (n + m) * z := by rw [List.length_append, hl, hm, Nat.add_mul]
  have h4 : z = z ∧ ¬ z = 0 ∧ (n + new.length / z) * (b + 1) ≤ 140737488355328 ∧ new.length % z = 0 := ⟨rfl, by omega, by rw [h1]; exact hb, h2⟩
  rcases hc with rfl | rfl
  · refine ⟨H.next, H.push ty false (cs ++ new), ?_, own_new _ _ _ _ _ hz h3 (.inr rfl) (by omega), Stay.push _ _ _ _ _, Nat.le_refl _⟩
    unfold aapp
    dsimp only
    rw [if_pos h4, if_neg hne]
    simp only [hcells, hq, if_true, ok1, h1]
  · refine ⟨H.next, H.turn q ty (s0 && true) (cs ++ new), ?_, ⟨hz, h3, .inr rfl, by show H.floor ≤ H.next; omega, Nat.lt_succ_self _, false, s0 && true, by rw [get_turn, if_pos rfl]⟩, ⟨rfl, Nat.le_succ _, fun i hi hni => by rw [get_turn, if_neg (by omega), if_neg hni]⟩, Nat.le_refl _⟩
    unfold aapp
    dsimp only
    rw [if_pos h4, if_neg hne]
    simp only [hcells, hq, hf, reduceCtorEq, if_false, and_self, if_true, ok1, h1]
    rfl

/-- A row of its own, appended. -/
theorem Own.snoc {H : AH} {ty z q n : Nat} {c : Option Nat} {cs : List AV} (h : Own H ty z q n c cs) (b : Nat) {new : List AV} {m : Nat} (hne : new ≠ []) (hm : new.length = m * z) (hb : (n + m) * (b + 1) ≤ 140737488355328) :
    ∃ q' H', aapp (H.push ty true new) ty z b (.sl q 0 z n c) new = some (.ok (.sl q' 0 z (n + m) none), H') ∧ Own H' ty z q' (n + m) none (cs ++ new) ∧ Stay H H' q ∧ H.next ≤ q' := by
  obtain ⟨q', H', h1, h2, h3, h4⟩ := (h.push ty true new).app b hne hm hb
  exact ⟨q', H', h1, h2, (Stay.push H ty true new q).trans h3 (.inr rfl), Nat.le_trans (Nat.le_succ _) h4⟩

end Go.Am
