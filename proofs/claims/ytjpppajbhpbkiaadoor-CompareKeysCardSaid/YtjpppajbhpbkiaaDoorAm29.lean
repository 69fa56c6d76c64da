/-
The rules, first order: what is still to come is a list. Conditions: none, these are equations.
-/
import Derived.Test.YtjpppajbhpbkiaaDoorAm28
set_option linter.unusedSimpArgs false
set_option linter.unusedVariables false
namespace Go.Am

inductive Fr where
  | code (c : ACode)
  | block (id : Nat)

def later (call : Call) (K : AX → St → Prop) : List Fr → AX → St → Prop
  | [] => K
  | .code b :: ks => thenK (wp call b (later call K ks)) (later call K ks)
  | .block id :: ks => blockK id (later call K ks)

section
variable (call : Call) (K : AX → St → Prop) (ks : List Fr) (e : Env) (H : AH)

/-- Code, then the rest. -/
def W0 (c : ACode) : Prop := wp call c (later call K ks) ⟨e, H⟩
/-- A region's operations, then the rest. -/
def Rg0 (is : List AIns) : Prop := wpR call (later call K ks) is e H
/-- The rest, from here on. -/
def Nx0 : Prop := later call K ks .nrm ⟨e, H⟩
def Ex0 (id : Nat) : Prop := later call K ks (.exit id) ⟨e, H⟩
def Rt0 : Prop := later call K ks .ret ⟨e, H⟩
def Cd0 (c : Arg) (a b : ACode) : AV → Prop
  | .bool t => (t = true → W0 call K ks (pushA e c true) H a) ∧ (t = false → W0 call K ks (pushA e c false) H b)
  | _ => False
def Ro0 (e' : Env) (is : List AIns) (dst : Option Nat) : Option (Out × AH) → Prop
  | none => False
  | some (.ok v, H') => Rg0 call K ks (putd e' dst v) H' is
  | some (.pan v, H') => later call K ks (.pan v) ⟨e, H'⟩
def Rf0 (is : List AIns) (dst : Option Nat) (op : AOp) (g : Nat) (b : Bool) : AV → Prop
  | .bool c => (c = b → Ro0 call K ks e ((g, .bool b) :: e) is dst (exe call e op H)) ∧ (c = (!b) → Rg0 call K ks (putd ((g, .bool (!b)) :: e) dst (.tup [])) H is)
  | .tup [] => Rg0 call K ks (putd ((g, .tup []) :: e) dst (.tup [])) H is
  | _ => False

theorem W0_skip : W0 call K ks e H .skip = Nx0 call K ks e H := rfl
theorem W0_seq (a b : ACode) : W0 call K ks e H (.seq a b) = W0 call K (.code b :: ks) e H a := rfl
theorem W0_block (id : Nat) (b : ACode) : W0 call K ks e H (.block id b) = W0 call K (.block id :: ks) e H b := rfl
theorem W0_exit (id : Nat) : W0 call K ks e H (.exit id) = Ex0 call K ks e H id := rfl
def kp (e : Env) : List Nat → Env
  | [] => []
  | t :: l => (t, e.at t) :: kp e l
theorem kp_eq (e : Env) (l : List Nat) : keep e (some l) = kp e l := by
  induction l with
  | nil => rfl
  | cons t l ih => simp only [kp, ← ih]; rfl
theorem W0_trim (l : List Nat) : W0 call K ks e H (.trim l) = Nx0 call K ks (kp e l) H := by
  rw [← kp_eq]; rfl
theorem W0_ret : W0 call K ks e H .ret = Rt0 call K ks e H := rfl
theorem W0_reg (is : List AIns) : W0 call K ks e H (.reg is) = Rg0 call K ks e H is := rfl
theorem W0_cond (c : Arg) (a b : ACode) : W0 call K ks e H (.cond c a b) = Cd0 call K ks e H c a b (c.val e) := by
  simp only [W0, wp]
  cases c.val e <;> rfl
theorem Cd0_bool (c : Arg) (a b : ACode) (t : Bool) : Cd0 call K ks e H c a b (.bool t) = ((t = true → W0 call K ks (pushA e c true) H a) ∧ (t = false → W0 call K ks (pushA e c false) H b)) := rfl
theorem Cd0_dec (c : Arg) (a b : ACode) (p : Prop) [Decidable p] : Cd0 call K ks e H c a b (.bool (decide p)) = ((p → W0 call K ks (pushA e c true) H a) ∧ (¬ p → W0 call K ks (pushA e c false) H b)) := by simp [Cd0]
theorem Cd0_beq {α : Type} [BEq α] [LawfulBEq α] (c : Arg) (a b : ACode) (x y : α) : Cd0 call K ks e H c a b (.bool (x == y)) = ((x = y → W0 call K ks (pushA e c true) H a) ∧ (¬ x = y → W0 call K ks (pushA e c false) H b)) := by simp [Cd0]
theorem Cd0_bne {α : Type} [BEq α] [LawfulBEq α] (c : Arg) (a b : ACode) (x y : α) : Cd0 call K ks e H c a b (.bool (x != y)) = ((x = y → W0 call K ks (pushA e c false) H b) ∧ (¬ x = y → W0 call K ks (pushA e c true) H a)) := by simp [Cd0]; exact And.comm
theorem Cd0_nbeq {α : Type} [BEq α] [LawfulBEq α] (c : Arg) (a b : ACode) (x y : α) : Cd0 call K ks e H c a b (.bool (!(x == y))) = ((x = y → W0 call K ks (pushA e c false) H b) ∧ (¬ x = y → W0 call K ks (pushA e c true) H a)) := by simp [Cd0]; exact And.comm
theorem Cd0_true (c : Arg) (a b : ACode) : Cd0 call K ks e H c a b (.bool true) = W0 call K ks (pushA e c true) H a := by simp [Cd0]
theorem Cd0_false (c : Arg) (a b : ACode) : Cd0 call K ks e H c a b (.bool false) = W0 call K ks (pushA e c false) H b := by simp [Cd0]
theorem Nx0_nil : Nx0 call K [] e H = K .nrm ⟨e, H⟩ := rfl
theorem Nx0_code (b : ACode) : Nx0 call K (.code b :: ks) e H = W0 call K ks e H b := rfl
theorem Nx0_block (id : Nat) : Nx0 call K (.block id :: ks) e H = Nx0 call K ks e H := rfl
theorem Ex0_nil (id : Nat) : Ex0 call K [] e H id = K (.exit id) ⟨e, H⟩ := rfl
theorem Ex0_code (id : Nat) (b : ACode) : Ex0 call K (.code b :: ks) e H id = Ex0 call K ks e H id := rfl
theorem Ex0_block (id j : Nat) : Ex0 call K (.block j :: ks) e H id = if id = j then Nx0 call K ks e H else Ex0 call K ks e H id := by
  simp only [Ex0, later, blockK]
  rfl
theorem Rt0_nil : Rt0 call K [] e H = K .ret ⟨e, H⟩ := rfl
theorem Rt0_code (b : ACode) : Rt0 call K (.code b :: ks) e H = Rt0 call K ks e H := rfl
theorem Rt0_block (id : Nat) : Rt0 call K (.block id :: ks) e H = Rt0 call K ks e H := rfl
theorem Rg0_nil : Rg0 call K ks e H [] = Nx0 call K ks e H := rfl
theorem Rg0_one (is : List AIns) (dst : Option Nat) (op : AOp) : Rg0 call K ks e H (⟨dst, op, .none⟩ :: is) = Ro0 call K ks e e is dst (exe call e op H) := by
  simp only [Rg0]
  rw [wpR_one]
  cases exe call e op H with
  | none => rfl
  | some p => obtain ⟨out, H'⟩ := p; cases out <;> rfl
theorem Rg0_if (is : List AIns) (dst : Option Nat) (op : AOp) (g : Nat) (b : Bool) : Rg0 call K ks e H (⟨dst, op, some (g, b)⟩ :: is) = Rf0 call K ks e H is dst op g b (e.at g) := by
  simp only [Rg0]
  rw [wpR_if]
  cases e.at g with
  | bool c =>
    simp only [Rf0, wpG]
    cases exe call e op H with
    | none => rfl
    | some p => obtain ⟨out, H'⟩ := p; cases out <;> rfl
  | tup vs => cases vs <;> rfl
  | _ => rfl
section
variable (e' : Env) (is : List AIns) (dst : Option Nat) (op : AOp) (g : Nat)
theorem Ro0_ok (v : AV) : Ro0 call K ks e e' is dst (some (.ok v, H)) = Rg0 call K ks (putd e' dst v) H is := rfl
theorem Rf0_bool (b c : Bool) : Rf0 call K ks e H is dst op g b (.bool c) = ((c = b → Ro0 call K ks e ((g, .bool b) :: e) is dst (exe call e op H)) ∧ (c = (!b) → Rg0 call K ks (putd ((g, .bool (!b)) :: e) dst (.tup [])) H is)) := rfl
theorem Rf0_dec (b : Bool) (p : Prop) [Decidable p] : Rf0 call K ks e H is dst op g b (.bool (decide p)) = ((p → Rf0 call K ks e H is dst op g b (.bool true)) ∧ (¬ p → Rf0 call K ks e H is dst op g b (.bool false))) := by
  by_cases h : p <;> simp [h]
theorem Rf0_beq {α : Type} [BEq α] [LawfulBEq α] (b : Bool) (x y : α) : Rf0 call K ks e H is dst op g b (.bool (x == y)) = ((x = y → Rf0 call K ks e H is dst op g b (.bool true)) ∧ (¬ x = y → Rf0 call K ks e H is dst op g b (.bool false))) := by
  by_cases h : x = y
  · subst h; simp
  · have : (x == y) = false := by simpa using h
    rw [this]; simp [h]
theorem Rf0_bne {α : Type} [BEq α] [LawfulBEq α] (b : Bool) (x y : α) : Rf0 call K ks e H is dst op g b (.bool (x != y)) = ((x = y → Rf0 call K ks e H is dst op g b (.bool false)) ∧ (¬ x = y → Rf0 call K ks e H is dst op g b (.bool true))) := by
  by_cases h : x = y
  · subst h; simp
  · have : (x == y) = false := by simpa using h
    simp only [bne, this]; simp [h]
theorem Rf0_nbeq {α : Type} [BEq α] [LawfulBEq α] (b : Bool) (x y : α) : Rf0 call K ks e H is dst op g b (.bool (!(x == y))) = ((x = y → Rf0 call K ks e H is dst op g b (.bool false)) ∧ (¬ x = y → Rf0 call K ks e H is dst op g b (.bool true))) := Rf0_bne call K ks e H is dst op g b x y
theorem Rf0_tt : Rf0 call K ks e H is dst op g true (.bool true) = Ro0 call K ks e ((g, .bool true) :: e) is dst (exe call e op H) := by simp [Rf0]
theorem Rf0_ff : Rf0 call K ks e H is dst op g false (.bool false) = Ro0 call K ks e ((g, .bool false) :: e) is dst (exe call e op H) := by simp [Rf0]
theorem Rf0_tf : Rf0 call K ks e H is dst op g true (.bool false) = Rg0 call K ks (putd ((g, .bool false) :: e) dst (.tup [])) H is := by simp [Rf0]
theorem Rf0_ft : Rf0 call K ks e H is dst op g false (.bool true) = Rg0 call K ks (putd ((g, .bool true) :: e) dst (.tup [])) H is := by simp [Rf0]
theorem Rf0_tup (b : Bool) : Rf0 call K ks e H is dst op g b (.tup []) = Rg0 call K ks (putd ((g, .tup []) :: e) dst (.tup [])) H is := rfl
end

theorem W0_loop {live : Option (List Nat)} {b : ACode} (h : W0 call K (.code (.loop live b) :: ks) (keep e live) H b) : W0 call K ks e H (.loop live b) := wp_loop h

theorem wp_W0 {c : ACode} (h : W0 call K [] e H c) : wp call c K ⟨e, H⟩ := h
end
end Go.Am
