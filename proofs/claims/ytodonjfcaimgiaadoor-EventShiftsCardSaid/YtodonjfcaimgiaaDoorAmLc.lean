/-
Which of two events comes first, by comparing. Conditions: none.
-/
import Derived.Test.YtodonjfcaimgiaaDoorAmLb
set_option linter.unusedSimpArgs false
set_option linter.unusedVariables false
namespace Go.Am

/-! ### Plain -/

theorem cmpI_zero {x y : Int} : cmpI x y = 0 ↔ x = y := by unfold cmpI; split <;> (try split) <;> omega
theorem cmpI_neg {x y : Int} : cmpI x y < 0 ↔ x < y := by unfold cmpI; split <;> (try split) <;> omega
theorem compareBytes_zero : ∀ {a b : List UInt8}, Lib.compareBytes a b = 0 ↔ a = b
  | [], [] => by simp [Lib.compareBytes]
  | [], _ :: _ => by simp [Lib.compareBytes]
  | _ :: _, [] => by simp [Lib.compareBytes]
  | a :: x, b :: y => by
    simp only [Lib.compareBytes, List.cons.injEq]
    split
    · rename_i h
      have : a ≠ b := fun e => by subst e; exact absurd h (UInt8.lt_irrefl _)
      simp [this]
    · split
      · rename_i h
        have : a ≠ b := fun e => by subst e; exact absurd h (UInt8.lt_irrefl _)
        simp [this]
      · rename_i h1 h2
        have : a = b := UInt8.le_antisymm (UInt8.not_lt.1 h2) (UInt8.not_lt.1 h1)
        rw [compareBytes_zero]; simp [this]
theorem compareBytes_neg : ∀ {a b : List UInt8}, Lib.compareBytes a b < 0 ↔ Op.bytesLess a b = true
  | [], [] => by simp [Lib.compareBytes, Op.bytesLess]
  | [], _ :: _ => by simp [Lib.compareBytes, Op.bytesLess]
  | _ :: _, [] => by simp [Lib.compareBytes, Op.bytesLess]
  | a :: x, b :: y => by
    simp only [Lib.compareBytes, Op.bytesLess, Bool.or_eq_true, Bool.and_eq_true, decide_eq_true_eq, beq_iff_eq]
    split
    · rename_i h; simp [h]
    · split
      · rename_i h1 h
        have : a ≠ b := fun e => by subst e; exact absurd h (UInt8.lt_irrefl _)
        simp [h1, this]
      · rename_i h1 h2
        have : a = b := UInt8.le_antisymm (UInt8.not_lt.1 h2) (UInt8.not_lt.1 h1)
        rw [compareBytes_neg]; simp [this]

theorem orL_cons_neg {z : Int} {l : List Int} : orL (z :: l) < 0 ↔ if z = 0 then orL l < 0 else z < 0 := by
  simp only [orL]; split <;> simp

theorem cmpE_neg (a b : Ev) : decide (cmpE a b < 0) = lessE a b := by
  unfold cmpE lessE
  simp only [orL_cons_neg, cmpI_zero, cmpI_neg, compareBytes_zero, compareBytes_neg]
  repeat' (split <;> try simp_all)
  simp [orL]

theorem cmpE_self (a : Ev) : cmpE a a = 0 := by
  have h : ∀ x, cmpI x x = 0 := fun x => cmpI_zero.2 rfl
  have h2 : Lib.compareBytes a.d a.d = 0 := compareBytes_zero.2 rfl
  simp [cmpE, orL, h, h2]

/-! ### Equality of events -/

def eqE (a b : Ev) : Bool := a.k == b.k && (a.f == b.f && (a.t == b.t && (a.v == b.v && (a.a == b.a && (a.d == b.d && a.ft == b.ft)))))

theorem aeqs_ev (k f t v x ft k' f' t' v' x' ft' : Int) (d d' : List UInt8) : aeqs [(0, .none, .int), (1, .none, .int), (2, .none, .int), (3, .none, .int), (4, .none, .int), (5, .none, .str), (6, .none, .int)] [.int .i64 k, .int .i64 f, .int .i64 t, .int .i64 v, .int .i64 x, .str d, .int .i64 ft] [.int .i64 k', .int .i64 f', .int .i64 t', .int .i64 v', .int .i64 x', .str d', .int .i64 ft'] = some (eqE ⟨k, f, t, v, x, d, ft⟩ ⟨k', f', t', v', x', d', ft'⟩) := by
  simp only [aeqs, List.getElem?_cons_zero, List.getElem?_cons_succ, aeq, if_true, eqE]
  cases (k == k') <;> cases (f == f') <;> cases (t == t') <;> cases (v == v') <;> cases (x == x') <;> cases (d == d') <;> cases (ft == ft') <;> rfl

theorem eqE_iff (a b : Ev) : eqE a b = true ↔ a = b := by
  obtain ⟨k, f, t, v, x, d, ft⟩ := a
  obtain ⟨k', f', t', v', x', d', ft'⟩ := b
  simp [eqE]
end Go.Am
