/-
A region that draws its order: in whatever order its operations come, they leave what the abstract machine's one walk leaves. Conditions: the heap stands to the world, the temporaries to the values, and calls do what the machine's calls do.
-/
import Derived.Test.YtjpppajbhpbkiaaDoorAm14
import Derived.Orders
set_option linter.unusedSimpArgs false
set_option linter.unusedVariables false
namespace Go.Am
open Go.RowKit

section
variable {P : Program} {B : Base} {call : Call}

theorem lk_flatMap_some {α : Type} {L : List α} {f : α → List (Nat × Blk)} {i : Nat} {b : Blk} (h : lk (L.flatMap f) i = some b) : ∃ r ∈ L, lk (f r) i = some b := by
  induction L with
  | nil => simp [lk] at h
  | cons r L ih =>
    rw [List.flatMap_cons, lk_append] at h
    cases hr : lk (f r) i with
    | some c => simp [hr] at h; subst h; exact ⟨r, by simp, hr⟩
    | none => simp [hr] at h; obtain ⟨q, h1, h2⟩ := ih h; exact ⟨q, by simp [h1], h2⟩

theorem lk_flatMap_of {α : Type} {L : List α} {f : α → List (Nat × Blk)} {i : Nat} {b : Blk} {r : α} (hr : r ∈ L) (hb : lk (f r) i = some b) (hu : ∀ q ∈ L, ∀ c, lk (f q) i = some c → c = b) : lk (L.flatMap f) i = some b := by
  induction L with
  | nil => simp at hr
  | cons q L ih =>
    rw [List.flatMap_cons, lk_append]
    cases hq : lk (f q) i with
    | some c => rw [hu q (by simp) c hq]; rfl
    | none =>
      rcases List.mem_cons.1 hr with rfl | hr'
      · rw [hb] at hq; cases hq
      · simpa using ih hr' fun q' hq' => hu q' (by simp [hq'])

/-- A heap that holds no more blocks of memory than one that stands to the world, each as it stands there. -/
theorem Rel.sub {φ : Emb} {H H' : AH} {w : World} (h : Rel B φ H w) (hsub : ∀ i b, H'.get i = some b → H.get i = some b) (hlive : ∀ i b, H'.get i = some b → i < H'.next) (hf : H'.floor ≤ H'.next) (hff : H.floor ≤ H'.floor) : Rel B φ H' w where
  know := h.know
  hB := h.hB
  live := hlive
  fl := hf
  blk := fun i b hb => h.blk i b (hsub i b hb)
  inj := fun i j b c p s m q t n hi hj h1 h2 h3 h4 h5 h6 => h.inj i j b c p s m q t n (hsub i b hi) (hsub j c hj) h1 h2 h3 h4 h5 (by omega)

/-- What stood to a world stands to one in which all that was there is as it was. -/
theorem Rel.grow {φ ψ : Emb} {H : AH} {w w' : World} (h : Rel B φ H w) (hle : φ.le ψ) (hsz : w.heap.size ≤ w'.heap.size) (hheap : ∀ p, p < w.heap.size → w'.heap[p]? = w.heap[p]?) : Rel B ψ H w' where
  know := h.know.keep (fun p hp => hheap p (Nat.lt_of_lt_of_le hp h.hB)) (Nat.le_trans h.hB hsz)
  hB := Nat.le_trans h.hB hsz
  live := h.live
  fl := h.fl
  blk := fun i b hb => by
    obtain ⟨p, s, m, e, br⟩ := h.blk i b hb
    refine ⟨p, s, m, hle _ _ e, br.keep hle (hheap p ?_)⟩
    cases hro : b.ro with
    | true => have := (br.ro hro).1; have := h.hB; omega
    | false => exact h.lt_heap hb hro e
  inj := fun i j b c p s m q t n hi hj hb hc e1 e2 hij hfl => by
    obtain ⟨p', s', m', e3, _⟩ := h.blk i b hi
    obtain ⟨q', t', n', e4, _⟩ := h.blk j c hj
    have e5 := hle _ _ e3
    have e6 := hle _ _ e4
    rw [e1] at e5; simp at e5; obtain ⟨rfl, rfl, rfl⟩ := e5
    rw [e2] at e6; simp at e6; obtain ⟨rfl, rfl, rfl⟩ := e6
    exact h.inj i j b c _ _ _ _ _ _ hi hj hb hc e3 e4 hij hfl

/-! ### The one walk -/

/-- What one step of the walk is. -/
inductive StepD (call : Call) (all : List DIns) (e0 : Env) (o : DIns) (j : Nat) (t t' : DSt) : Prop
  | skip : want (dEnv t.done all o.deps o.late j e0) o.ins.guard = some false → t' = { t with done := ⟨j, o.ins.dst, .tup [], []⟩ :: t.done } → StepD call all e0 o j t t'
  | pure (v : AV) (H : AH) : want (dEnv t.done all o.deps o.late j e0) o.ins.guard = some true → o.kind = 0 → exe call (dEnv t.done all o.deps o.late j e0) o.ins.op { blks := [], next := t.next, floor := t.next } = some (.ok v, H) → H.next = t.next →
      t' = { t with done := ⟨j, o.ins.dst, v, []⟩ :: t.done } → StepD call all e0 o j t t'
  | one (v : AV) (H : AH) : want (dEnv t.done all o.deps o.late j e0) o.ins.guard = some true → o.kind = 1 →
      exe call (dEnv t.done all o.deps o.late j e0) o.ins.op { blks := (t.seg.filter fun r => o.deps.contains r.j).flatMap (·.new) ++ t.base.blks, next := t.next, floor := t.next } = some (.ok v, H) →
      t' = { done := ⟨j, o.ins.dst, v, newBlks H.blks t.next⟩ :: t.done, base := t.base, seg := ⟨j, o.ins.dst, v, newBlks H.blks t.next⟩ :: t.seg, next := H.next } → StepD call all e0 o j t t'
  | two (v : AV) (H : AH) : want (dEnv t.done all o.deps o.late j e0) o.ins.guard = some true → o.kind ≠ 0 → o.kind ≠ 1 →
      exe call (dEnv t.done all o.deps o.late j e0) o.ins.op { blks := t.seg.flatMap (·.new) ++ t.base.blks, next := t.next, floor := t.base.floor } = some (.ok v, H) →
      t' = { done := ⟨j, o.ins.dst, v, []⟩ :: t.done, base := H, seg := [], next := H.next } → StepD call all e0 o j t t'

theorem stepD_cases {all : List DIns} {e0 : Env} {o : DIns} {j : Nat} {t t' : DSt} (h : stepD call all e0 o j t = some t') : StepD call all e0 o j t t' := by
  unfold stepD at h
  simp only at h
  split at h
  · cases h
  · rename_i hw
    simp at h
    exact .skip hw h.symm
  · rename_i hw
    split at h
    · rename_i hk
      split at h
      · rename_i v H hx
        split at h
        · rename_i hn
          simp at h
          exact .pure v H hw hk hx hn h.symm
        · cases h
      · cases h
    · rename_i hk0
      split at h
      · rename_i hk
        split at h
        · rename_i v H hx
          simp at h
          exact .one v H hw hk hx h.symm
        · cases h
      · rename_i hk1
        split at h
        · rename_i v H hx
          simp at h
          exact .two v H hw hk0 hk1 hx h.symm
        · cases h

theorem StepD.next_le (hm : CallMono call) {all : List DIns} {e0 : Env} {o : DIns} {j : Nat} {t t' : DSt} (h : StepD call all e0 o j t t') : t.next ≤ t'.next := by
  cases h with
  | skip _ h => subst h; exact Nat.le_refl _
  | pure v H _ _ _ _ h => subst h; exact Nat.le_refl _
  | one v H _ _ hx h => subst h; exact exe_next hm hx
  | two v H _ _ _ hx h => subst h; exact exe_next hm hx

/-- The walk, state by state. -/
theorem runD_trace {all : List DIns} {e0 : Env} : ∀ (l : List DIns) (j : Nat) (t t' : DSt), runD call all e0 l j t = some t' →
    ∃ T : Nat → DSt, T j = t ∧ T (j + l.length) = t' ∧ ∀ k o, l[k]? = some o → StepD call all e0 o (j + k) (T (j + k)) (T (j + k + 1))
  | [], j, t, t', h => by
    simp [runD] at h; subst h
    exact ⟨fun _ => t, rfl, rfl, fun k o hk => by simp at hk⟩
  | o :: l, j, t, t', h => by
    simp only [runD] at h
    split at h
    · rename_i t1 h1
      obtain ⟨T, h2, h3, h4⟩ := runD_trace l (j + 1) t1 t' h
      refine ⟨fun k => if k = j then t else T k, by simp, ?_, fun k q hk => ?_⟩
      · have : ¬ (j + (o :: l).length = j) := by simp
        simp only [this, if_false]
        rw [← h3]
        congr 1
        simp; omega
      · cases k with
        | zero =>
          simp at hk; subst hk
          have : ¬ (j + 0 + 1 = j) := by omega
          simp only [this, if_false, Nat.add_zero, if_true]
          rw [show T (j + 1) = t1 from h2]
          exact stepD_cases h1
        | succ k =>
          have e1 : ¬ (j + (k + 1) = j) := by omega
          have e2 : ¬ (j + (k + 1) + 1 = j) := by omega
          simp only [e1, e2, if_false]
          have := h4 k q (by simpa using hk)
          rwa [show j + 1 + k = j + (k + 1) by omega] at this
    · cases h

end
end Go.Am
