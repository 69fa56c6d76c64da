/-
What must hold ahead of code for it to end as wished: a rule for each kind of code. Conditions: those that each theorem names.
-/
import Derived.Test.YtjpppajbhpbkiaaDoorAm27
set_option linter.unusedSimpArgs false
set_option linter.unusedVariables false
namespace Go.Am

def wpR (call : Call) (K : AX → St → Prop) : List AIns → Env → AH → Prop
  | [], e, H => K .nrm ⟨e, H⟩
  | i :: is, e, H => match i.guard with
    | none => match exe call e i.op H with
      | none => False
      | some (.ok v, H') => wpR call K is (putd e i.dst v) H'
      | some (.pan v, H') => K (.pan v) ⟨e, H'⟩
    | some (g, b) => match e.at g with
      | .bool c => (c = b → match exe call e i.op H with
          | none => False
          | some (.ok v, H') => wpR call K is (putd ((g, .bool b) :: e) i.dst v) H'
          | some (.pan v, H') => K (.pan v) ⟨e, H'⟩) ∧ (c = (!b) → wpR call K is (putd ((g, .bool (!b)) :: e) i.dst (.tup [])) H)
      | .tup [] => wpR call K is (putd ((g, .tup []) :: e) i.dst (.tup [])) H
      | _ => False

def wpO (call : Call) (K : AX → St → Prop) (is : List AIns) (e e' : Env) (dst : Option Nat) : Option (Out × AH) → Prop
  | none => False
  | some (.ok v, H') => wpR call K is (putd e' dst v) H'
  | some (.pan v, H') => K (.pan v) ⟨e, H'⟩

def wpG (call : Call) (K : AX → St → Prop) (is : List AIns) (e : Env) (dst : Option Nat) (op : AOp) (g : Nat) (b : Bool) (H : AH) : AV → Prop
  | .bool c => (c = b → wpO call K is e ((g, .bool b) :: e) dst (exe call e op H)) ∧ (c = (!b) → wpR call K is (putd ((g, .bool (!b)) :: e) dst (.tup [])) H)
  | .tup [] => wpR call K is (putd ((g, .tup []) :: e) dst (.tup [])) H
  | _ => False

section
variable (call : Call) (K : AX → St → Prop) (is : List AIns) (e : Env) (H : AH) (dst : Option Nat) (op : AOp)
theorem wpR_nil : wpR call K [] e H = K .nrm ⟨e, H⟩ := rfl
theorem wpR_one : wpR call K (⟨dst, op, .none⟩ :: is) e H = wpO call K is e e dst (exe call e op H) := by
  simp only [wpR]
  cases exe call e op H with
  | none => rfl
  | some p => obtain ⟨out, H'⟩ := p; cases out <;> rfl
theorem wpR_if (g : Nat) (b : Bool) : wpR call K (⟨dst, op, some (g, b)⟩ :: is) e H = wpG call K is e dst op g b H (e.at g) := by
  simp only [wpR]
  cases e.at g with
  | bool c =>
    simp only [wpG]
    cases exe call e op H with
    | none => rfl
    | some p => obtain ⟨out, H'⟩ := p; cases out <;> rfl
  | tup vs => cases vs <;> rfl
  | _ => rfl
end

def thenK (next : St → Prop) (K : AX → St → Prop) : AX → St → Prop
  | .nrm, s => next s
  | .exit id, s => K (.exit id) s
  | .ret, s => K .ret s
  | .pan v, s => K (.pan v) s

def blockK (id : Nat) (K : AX → St → Prop) : AX → St → Prop
  | .nrm, s => K .nrm s
  | .exit id', s => if id' = id then K .nrm s else K (.exit id') s
  | .ret, s => K .ret s
  | .pan v, s => K (.pan v) s

def pushA (e : Env) (c : Arg) (t : Bool) : Env := match c with
  | .t n => (n, .bool t) :: e
  | .c _ => e

theorem pushA_eq {e : Env} {c : Arg} {t : Bool} (h : c.val e = .bool t) : knowA e c = pushA e c t := by
  cases c with
  | t n => simp only [knowA, pushA]; rw [show e.at n = .bool t from h]
  | c _ => rfl

def wp (call : Call) : ACode → (AX → St → Prop) → St → Prop
  | .skip, K, s => K .nrm s
  | .reg is, K, s => wpR call K is s.e s.H
  | .regd is, K, s => ∃ x s', runDr call is s = some (x, s') ∧ K x s'
  | .seq a b, K, s => wp call a (thenK (wp call b K) K) s
  | .cond c a b, K, s => match c.val s.e with
    | .bool t => (t = true → wp call a K { s with e := pushA s.e c true }) ∧ (t = false → wp call b K { s with e := pushA s.e c false })
    | _ => False
  | .block id b, K, s => wp call b (blockK id K) s
  | .loop live b, K, s => ∃ x s', eiter (erun call b) live s = some (x, s') ∧ K x s'
  | .exit id, K, s => K (.exit id) s
  | .ret, K, s => K .ret s
  | .trim l, K, s => K .nrm { s with e := keep s.e (some l) }

theorem wpR_sound {call : Call} {K : AX → St → Prop} : ∀ (is : List AIns) {e : Env} {H : AH}, wpR call K is e H → ∃ x s', runR call is ⟨e, H⟩ = some (x, s') ∧ K x s'
  | [], e, H, h => ⟨.nrm, _, rfl, h⟩
  | ⟨dst, op, gd⟩ :: is, e, H, h => by
    have run1 : wpO call K is e (know e gd) dst (exe call e op H) → want e gd = some true → ∃ x s', runR call (⟨dst, op, gd⟩ :: is) ⟨e, H⟩ = some (x, s') ∧ K x s' := by
      intro h1 hw
      cases hx : exe call e op H with
      | none => rw [hx] at h1; exact h1.elim
      | some p =>
        obtain ⟨out, H'⟩ := p
        rw [hx] at h1
        simp only [runR, hw, hx]
        cases out with
        | ok v => exact wpR_sound is h1
        | pan v => exact ⟨_, _, rfl, h1⟩
    cases gd with
    | none => rw [wpR_one] at h; exact run1 h rfl
    | some gb =>
      obtain ⟨g, b⟩ := gb
      rw [wpR_if] at h
      cases hc : e.at g with
      | bool c =>
        rw [hc] at h
        by_cases hcb : c = b
        · refine run1 ?_ (by simp [want, hc, hcb])
          have := h.1 hcb
          simp only [know, hc, hcb]
          exact this
        · have hc' : c = !b := by cases c <;> cases b <;> simp_all
          obtain ⟨x, s', h1, h2⟩ := wpR_sound is (h.2 hc')
          refine ⟨x, s', ?_, h2⟩
          have : want e (some (g, b)) = some false := by simp [want, hc, hc']
          simp only [runR, this, know, hc, hc']
          exact h1
      | tup vs =>
        rw [hc] at h
        cases vs with
        | nil =>
          obtain ⟨x, s', h1, h2⟩ := wpR_sound is h
          refine ⟨x, s', ?_, h2⟩
          have : want e (some (g, b)) = some false := by simp [want, hc]
          simp only [runR, this, know, hc]
          exact h1
        | cons _ _ => exact h.elim
      | _ => rw [hc] at h; exact h.elim

theorem wp_sound {call : Call} : ∀ (c : ACode) {K : AX → St → Prop} {s : St}, wp call c K s → ∃ x s', erun call c s = some (x, s') ∧ K x s'
  | .skip, K, s, h => ⟨_, _, rfl, h⟩
  | .exit _, K, s, h => ⟨_, _, rfl, h⟩
  | .ret, K, s, h => ⟨_, _, rfl, h⟩
  | .trim _, K, s, h => ⟨_, _, rfl, h⟩
  | .reg is, K, s, h => wpR_sound is h
  | .regd is, K, s, h => h
  | .loop _ _, K, s, h => h
  | .seq a b, K, s, h => by
    obtain ⟨x, s1, h1, h2⟩ := wp_sound a h
    cases x with
    | nrm =>
      obtain ⟨y, s2, h3, h4⟩ := wp_sound b h2
      exact ⟨y, s2, by simp only [erun, h1, h3], h4⟩
    | exit id => exact ⟨_, _, by simp only [erun, h1], h2⟩
    | ret => exact ⟨_, _, by simp only [erun, h1], h2⟩
    | pan v => exact ⟨_, _, by simp only [erun, h1], h2⟩
  | .cond c a b, K, s, h => by
    simp only [wp] at h
    split at h
    · rename_i t ht
      cases t with
      | true => obtain ⟨x, s', h1, h2⟩ := wp_sound a (h.1 rfl); exact ⟨x, s', by simp only [erun, ht, if_true, pushA_eq ht, h1], h2⟩
      | false => obtain ⟨x, s', h1, h2⟩ := wp_sound b (h.2 rfl); exact ⟨x, s', by simp only [erun, ht, Bool.false_eq_true, if_false, pushA_eq ht, h1], h2⟩
    · exact h.elim
  | .block id b, K, s, h => by
    obtain ⟨x, s1, h1, h2⟩ := wp_sound b h
    cases x with
    | nrm => exact ⟨_, _, by simp only [erun, h1], h2⟩
    | exit id' =>
      by_cases e : id' = id
      · simp only [blockK, e, if_true] at h2; exact ⟨_, _, by simp only [erun, h1, e, if_true], h2⟩
      · simp only [blockK, e, if_false] at h2; exact ⟨_, _, by simp only [erun, h1, e, if_false], h2⟩
    | ret => exact ⟨_, _, by simp only [erun, h1], h2⟩
    | pan v => exact ⟨_, _, by simp only [erun, h1], h2⟩

/-- A round of a loop. -/
theorem wp_loop {call : Call} {live : Option (List Nat)} {b : ACode} {K : AX → St → Prop} {s : St} (h : wp call b (thenK (wp call (.loop live b) K) K) { s with e := keep s.e live }) : wp call (.loop live b) K s := by
  obtain ⟨x, s1, h1, h2⟩ := wp_sound b h
  simp only [wp]
  rw [eiter_eq, h1]
  cases x with
  | nrm => exact h2
  | exit id => exact ⟨_, _, rfl, h2⟩
  | ret => exact ⟨_, _, rfl, h2⟩
  | pan v => exact ⟨_, _, rfl, h2⟩

theorem wpR_mono {call : Call} {K K' : AX → St → Prop} (hK : ∀ x s, K x s → K' x s) : ∀ (is : List AIns) {e : Env} {H : AH}, wpR call K is e H → wpR call K' is e H
  | [], e, H, h => hK _ _ h
  | ⟨dst, op, gd⟩ :: is, e, H, h => by
    have one : ∀ e', wpO call K is e e' dst (exe call e op H) → wpO call K' is e e' dst (exe call e op H) := by
      intro e' h1
      cases hx : exe call e op H with
      | none => rw [hx] at h1; exact h1.elim
      | some p =>
        obtain ⟨out, H'⟩ := p
        rw [hx] at h1
        cases out with
        | ok v => exact wpR_mono hK is h1
        | pan v => exact hK _ _ h1
    cases gd with
    | none => rw [wpR_one] at h ⊢; exact one _ h
    | some gb =>
      obtain ⟨g, b⟩ := gb
      rw [wpR_if] at h ⊢
      cases hc : e.at g with
      | bool c => rw [hc] at h; exact ⟨fun e => one _ (h.1 e), fun e => wpR_mono hK is (h.2 e)⟩
      | tup vs =>
        rw [hc] at h
        cases vs with
        | nil => exact wpR_mono hK is h
        | cons _ _ => exact h.elim
      | _ => rw [hc] at h; exact h.elim

theorem wp_mono {call : Call} : ∀ (c : ACode) {K K' : AX → St → Prop} {s : St}, (∀ x s, K x s → K' x s) → wp call c K s → wp call c K' s
  | .skip, K, K', s, hK, h => hK _ _ h
  | .exit _, K, K', s, hK, h => hK _ _ h
  | .ret, K, K', s, hK, h => hK _ _ h
  | .trim _, K, K', s, hK, h => hK _ _ h
  | .reg is, K, K', s, hK, h => wpR_mono hK is h
  | .regd is, K, K', s, hK, h => by obtain ⟨x, s', h1, h2⟩ := h; exact ⟨x, s', h1, hK _ _ h2⟩
  | .loop _ _, K, K', s, hK, h => by obtain ⟨x, s', h1, h2⟩ := h; exact ⟨x, s', h1, hK _ _ h2⟩
  | .seq a b, K, K', s, hK, h => wp_mono a (fun x s' h2 => by cases x <;> first | exact wp_mono b hK h2 | exact hK _ _ h2) h
  | .cond c a b, K, K', s, hK, h => by
    simp only [wp] at h ⊢
    split at h
    · exact ⟨fun e => wp_mono a hK (h.1 e), fun e => wp_mono b hK (h.2 e)⟩
    · exact h.elim
  | .block id b, K, K', s, hK, h => wp_mono b (fun x s' h2 => by
      cases x <;> simp only [blockK] at h2 ⊢
      case exit id' =>
        split at h2
        · rename_i e; rw [if_pos e]; exact hK _ _ h2
        · rename_i e; rw [if_neg e]; exact hK _ _ h2
      all_goals exact hK _ _ h2) h

/-- How a function ends. -/
def endK (res : List ARes) (R : List AV → AH → Prop) : AX → St → Prop
  | .nrm, s => ∃ vs, resAll s.e s.H res = some vs ∧ R vs s.H
  | .ret, s => ∃ vs, resAll s.e s.H res = some vs ∧ R vs s.H
  | _, _ => False

section
variable (G : Nat) (T : List (Nat × Blk)) (X : Ext) (M : Tab)

/-- A function's contract out of its code. -/
theorem ecall_wp {f : FuncId} {fn : AFun} {args : List AV} {H : AH} {out : AV} {H' : AH} (hX : X f = none) (hM : M f = some fn) (hv : fn.view = false)
    (h : wp (ecall G T X M) fn.code (endK fn.res fun vs H1 => pack vs = out ∧ H1 = H') ⟨number args 0, H⟩) : ecall G T X M f args H = some (.ok out, H') := by
  refine ecall_body G T X M hX hM hv ?_
  obtain ⟨x, s, h1, h2⟩ := wp_sound fn.code h
  unfold evale
  rw [h1]
  cases x with
  | nrm => obtain ⟨vs, h3, rfl, rfl⟩ := h2; simp only [h3]
  | ret => obtain ⟨vs, h3, rfl, rfl⟩ := h2; simp only [h3]
  | exit id => exact h2.elim
  | pan v => exact h2.elim

/-- A function's contract out of its code, called by value. -/
theorem ecall_wpv {f : FuncId} {fn : AFun} {args : List AV} {H : AH} {as : List AV} {bs : List (Nat × Blk)} {kp : Nat} {out : AV} {H' : AH} (hX : X f = none) (hM : M f = some fn) (hv : fn.view = true) (hvw : views H args G = some (as, bs, kp))
    (h : wp (ecall G T X M) fn.code (endK fn.res fun vs H1 => ∃ vs', backs H1 kp H vs = some (vs', H') ∧ pack vs' = out) ⟨number as 0, ⟨bs ++ T, kp, kp⟩⟩) : ecall G T X M f args H = some (.ok out, H') := by
  refine ecall_view G T X M hX hM hv ?_
  obtain ⟨x, s, h1, h2⟩ := wp_sound fn.code h
  unfold evals
  rw [hvw]
  simp only [h1]
  cases x with
  | nrm => obtain ⟨vs, h3, vs', h4, rfl⟩ := h2; simp only [h3, h4]
  | ret => obtain ⟨vs, h3, vs', h4, rfl⟩ := h2; simp only [h3, h4]
  | exit id => exact h2.elim
  | pan v => exact h2.elim

end
end Go.Am
