/-
A region that draws its order, continued: what is known of the machine's one walk, and what holds in the midst of whatever order. Conditions: those that each theorem names.
-/
import Derived.Test.YtjpppajbhpbkiaaDoorAm15
set_option linter.unusedSimpArgs false
set_option linter.unusedVariables false
namespace Go.Am
open Go.RowKit

section
variable {P : Program} {B : Base} {call : Call}

/-- What the compiler has told of a region. -/
structure DOk (P : Program) (nt : Nat) (ops : Array Oper) (is : List DIns) : Prop where
  len : is.length = ops.size
  ins : ∀ {j : Nat} {o : Oper} {d : DIns}, ops[j]? = some o → is[j]? = some d → d.ins = cins P nt ops o
  clos : ∀ (S : Nat → Prop) {j : Nat} {o : Oper} {d : DIns}, ops[j]? = some o → is[j]? = some d → (∀ (k : Nat) (dk : DIns), S k → is[k]? = some dk → ∀ x ∈ dk.deps, S x) → (∀ e ∈ o.after.toList, Region.binds .any e = true → S e.on) → ∀ x ∈ d.deps, S x
  edge : ∀ {j : Nat} {o : Oper} {d : DIns}, ops[j]? = some o → is[j]? = some d → ∀ e ∈ o.after.toList, Region.binds .any e = true → e.on ∈ d.deps
  late : ∀ {j k : Nat} {dj dk : DIns}, is[j]? = some dj → is[k]? = some dk → (k ∈ dj.late ↔ j ∈ dk.deps)
  lt : ∀ {j : Nat} {d : DIns} {x : Nat}, is[j]? = some d → x ∈ d.deps → x < j
  tot : ∀ {j : Nat} {d : DIns} {k : Nat} {dk : DIns}, is[j]? = some d → d.kind ≠ 0 → d.kind ≠ 1 → is[k]? = some dk → k ≠ j → dk.kind ≠ 0 → k ∈ d.deps ∨ k ∈ d.late
  nod : ∀ {j k : Nat} {d dk : DIns} {t : Nat}, is[j]? = some d → is[k]? = some dk → d.ins.dst = some t → dk.ins.dst = some t → j = k

/-- The walk's states. -/
structure Tr (call : Call) (is : List DIns) (e0 : Env) (H0 : AH) (T : Nat → DSt) : Prop where
  zero : T 0 = ⟨[], H0, [], H0.next⟩
  step : ∀ k o, is[k]? = some o → StepD call is e0 o k (T k) (T (k + 1))

def wk (is : List DIns) (e0 : Env) (T : Nat → DSt) (k : Nat) (o : DIns) : Option Bool := want (dEnv (T k).done is o.deps o.late k e0) o.ins.guard
def One (is : List DIns) (e0 : Env) (T : Nat → DSt) (k : Nat) : Prop := ∃ o, is[k]? = some o ∧ wk is e0 T k o = some true ∧ o.kind = 1
def Two (is : List DIns) (e0 : Env) (T : Nat → DSt) (k : Nat) : Prop := ∃ o, is[k]? = some o ∧ wk is e0 T k o = some true ∧ o.kind ≠ 0 ∧ o.kind ≠ 1
def res (T : Nat → DSt) (k : Nat) : DRes := (T (k + 1)).done.headD default

variable {is : List DIns} {e0 : Env} {H0 : AH} {T : Nat → DSt}

theorem Tr.some_of {j : Nat} (hj : j < is.length) : ∃ o, is[j]? = some o := ⟨is[j], by simp [hj]⟩
theorem Tr.lt_of {j : Nat} {o : DIns} (h : is[j]? = some o) : j < is.length := by
  rcases Nat.lt_or_ge j is.length with h' | h'
  · exact h'
  · rw [List.getElem?_eq_none h'] at h; cases h

theorem Tr.res_cons (h : Tr call is e0 H0 T) {k : Nat} {o : DIns} (ho : is[k]? = some o) : (T (k + 1)).done = res T k :: (T k).done ∧ (res T k).j = k ∧ (res T k).dst = o.ins.dst := by
  unfold res
  cases h.step k o ho with
  | skip _ e => rw [e]; exact ⟨rfl, rfl, rfl⟩
  | pure v H _ _ _ _ e => rw [e]; exact ⟨rfl, rfl, rfl⟩
  | one v H _ _ _ e => rw [e]; exact ⟨rfl, rfl, rfl⟩
  | two v H _ _ _ _ e => rw [e]; exact ⟨rfl, rfl, rfl⟩

theorem Tr.done_mem (h : Tr call is e0 H0 T) : ∀ (j : Nat), j ≤ is.length → ∀ r, r ∈ (T j).done ↔ ∃ k, k < j ∧ r = res T k
  | 0, _, r => by simp [h.zero]
  | j + 1, hj, r => by
    obtain ⟨o, ho⟩ := Tr.some_of (is := is) (j := j) (by omega)
    rw [(h.res_cons ho).1, List.mem_cons, h.done_mem j (by omega) r]
    constructor
    · rintro (rfl | ⟨k, hk, rfl⟩)
      · exact ⟨j, by omega, rfl⟩
      · exact ⟨k, by omega, rfl⟩
    · rintro ⟨k, hk, rfl⟩
      by_cases hkj : k = j
      · subst hkj; exact .inl rfl
      · exact .inr ⟨k, by omega, rfl⟩

theorem Tr.next_mono (h : Tr call is e0 H0 T) (hm : CallMono call) : ∀ {j k : Nat}, j ≤ k → k ≤ is.length → (T j).next ≤ (T k).next := by
  intro j k hjk hk
  induction k with
  | zero => obtain rfl : j = 0 := by omega
            exact Nat.le_refl _
  | succ k ih =>
    by_cases e : j = k + 1
    · subst e; exact Nat.le_refl _
    · obtain ⟨o, ho⟩ := Tr.some_of (is := is) (j := k) (by omega)
      exact Nat.le_trans (ih (by omega) (by omega)) ((h.step k o ho).next_le hm)

/-- Between two operations that write, the base stands and the segment grows. -/
theorem Tr.seg (h : Tr call is e0 H0 T) {m : Nat} (hs : (T m).seg = []) : ∀ {j : Nat}, m ≤ j → j ≤ is.length → (∀ k, m ≤ k → k < j → ¬ Two is e0 T k) → (T j).base = (T m).base ∧ ∀ r, r ∈ (T j).seg ↔ ∃ k, m ≤ k ∧ k < j ∧ One is e0 T k ∧ r = res T k := by
  intro j hj hjn hno
  induction j with
  | zero => obtain rfl : m = 0 := by omega
            exact ⟨rfl, fun r => by rw [hs]; simp⟩
  | succ j ih =>
    by_cases e : m = j + 1
    · subst e; exact ⟨rfl, fun r => ⟨fun hr => by rw [hs] at hr; simp at hr, fun ⟨k, a, b, _⟩ => by omega⟩⟩
    · obtain ⟨h1, h2⟩ := ih (by omega) (by omega) (fun k a b => hno k a (by omega))
      obtain ⟨o, ho⟩ := Tr.some_of (is := is) (j := j) (by omega)
      have hres := h.res_cons ho
      have other : ¬ One is e0 T j → (T (j + 1)).base = (T j).base → (T (j + 1)).seg = (T j).seg → (T (j + 1)).base = (T m).base ∧ ∀ r, r ∈ (T (j + 1)).seg ↔ ∃ k, m ≤ k ∧ k < j + 1 ∧ One is e0 T k ∧ r = res T k := by
        intro hn hb hsg
        refine ⟨hb.trans h1, fun r => ?_⟩
        rw [hsg, h2 r]
        constructor
        · rintro ⟨k, a, b, c, d⟩; exact ⟨k, a, by omega, c, d⟩
        · rintro ⟨k, a, b, c, d⟩
          by_cases ek : k = j
          · subst ek; exact absurd c hn
          · exact ⟨k, a, by omega, c, d⟩
      cases hst : h.step j o ho with
      | skip hw e => exact other (fun ⟨o', ho', hw', _⟩ => by rw [ho] at ho'; simp at ho'; subst ho'; unfold wk at hw'; rw [hw] at hw'; cases hw') (by rw [e]) (by rw [e])
      | pure v H hw hk hx hn e =>
        exact other (fun ⟨o', ho', _, hk'⟩ => by rw [ho] at ho'; simp at ho'; subst ho'; omega) (by rw [e]) (by rw [e])
      | one v H hw hk hx e =>
        refine ⟨by rw [e]; exact h1, fun r => ?_⟩
        have hr0 : res T j = ⟨j, o.ins.dst, v, newBlks H.blks (T j).next⟩ := by unfold res; rw [e]; rfl
        have : (T (j + 1)).seg = res T j :: (T j).seg := by rw [hr0, e]
        rw [this, List.mem_cons, h2 r]
        constructor
        · rintro (rfl | ⟨k, a, b, c, d⟩)
          · exact ⟨j, by omega, by omega, ⟨o, ho, hw, hk⟩, rfl⟩
          · exact ⟨k, a, by omega, c, d⟩
        · rintro ⟨k, a, b, c, d⟩
          by_cases ek : k = j
          · subst ek; exact .inl d
          · exact .inr ⟨k, a, by omega, c, d⟩
      | two v H hw hk0 hk1 hx e => exact absurd ⟨o, ho, hw, hk0, hk1⟩ (hno j (by omega) (by omega))

end
end Go.Am
