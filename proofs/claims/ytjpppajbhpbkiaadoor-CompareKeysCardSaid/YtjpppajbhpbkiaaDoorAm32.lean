/-
Contracts of functions that are called by value. Conditions: those that each theorem names.
-/
import Derived.Test.YtjpppajbhpbkiaaDoorAm31
set_option linter.unusedSimpArgs false
set_option linter.unusedVariables false
namespace Go.Am

theorem backs_flat {H1 H : AH} {kp : Nat} : ∀ {vs : List AV}, vs.all flat2 = true → backs H1 kp H vs = some (vs, H)
  | [], _ => rfl
  | v :: vs, h => by
    simp only [List.all_cons, Bool.and_eq_true] at h
    simp only [backs, h.1, if_true, backs_flat h.2]

/-- It ends with these values, none of which bears an address. -/
def flatK (res : List ARes) (out : List AV) : AX → St → Prop
  | .nrm, s => resAll s.e s.H res = some out
  | .ret, s => resAll s.e s.H res = some out
  | _, _ => False

theorem flatK_nrm (res : List ARes) (out : List AV) (e : Env) (H : AH) : flatK res out .nrm ⟨e, H⟩ = (resAll e H res = some out) := rfl
theorem flatK_ret (res : List ARes) (out : List AV) (e : Env) (H : AH) : flatK res out .ret ⟨e, H⟩ = (resAll e H res = some out) := rfl

/-- It ends with these values, the first of which is a slice of a block of its own. -/
def sliceK (res : List ARes) (kp o z n : Nat) (c : Option Nat) (b : Blk) (out : List AV) : AX → St → Prop
  | .nrm, s => ∃ i, resAll s.e s.H res = some (.sl i o z n c :: out) ∧ kp ≤ i ∧ s.H.get i = some b
  | .ret, s => ∃ i, resAll s.e s.H res = some (.sl i o z n c :: out) ∧ kp ≤ i ∧ s.H.get i = some b
  | _, _ => False

theorem sliceK_nrm (res : List ARes) (kp o z n : Nat) (c : Option Nat) (b : Blk) (out : List AV) (e : Env) (H : AH) : sliceK res kp o z n c b out .nrm ⟨e, H⟩ = ∃ i, resAll e H res = some (.sl i o z n c :: out) ∧ kp ≤ i ∧ H.get i = some b := rfl
theorem sliceK_ret (res : List ARes) (kp o z n : Nat) (c : Option Nat) (b : Blk) (out : List AV) (e : Env) (H : AH) : sliceK res kp o z n c b out .ret ⟨e, H⟩ = ∃ i, resAll e H res = some (.sl i o z n c :: out) ∧ kp ≤ i ∧ H.get i = some b := rfl

/-- The caller's heap with a block that came back. -/
def AH.take1 (H : AH) (b : Blk) : AH := { H with blks := (H.next, b) :: H.blks, next := H.next + 1 }

section
variable (G : Nat) (T : List (Nat × Blk)) (X : Ext) (M : Tab)

theorem ecall_flat {f : FuncId} {fn : AFun} {args : List AV} {H : AH} {as : List AV} {bs : List (Nat × Blk)} {kp : Nat} {out : List AV} (hX : X f = none) (hM : M f = some fn) (hv : fn.view = true) (hvw : views H args G = some (as, bs, kp)) (ho : out.all flat2 = true)
    (h : W (ecall G T X M) (flatK fn.res out) [] (number as 0) ⟨bs ++ T, kp, kp⟩ fn.code) : ecall G T X M f args H = some (.ok (pack out), H) := by
  refine ecall_wpv G T X M hX hM hv hvw (wp_mono fn.code (fun x s hx => ?_) (wp_W _ _ _ _ h))
  cases x with
  | nrm => exact ⟨out, hx, out, backs_flat ho, rfl⟩
  | ret => exact ⟨out, hx, out, backs_flat ho, rfl⟩
  | exit id => exact hx.elim
  | pan v => exact hx.elim

theorem ecall_slice {f : FuncId} {fn : AFun} {args : List AV} {H : AH} {as : List AV} {bs : List (Nat × Blk)} {kp : Nat} {o z n : Nat} {c : Option Nat} {b : Blk} {out : List AV} (hX : X f = none) (hM : M f = some fn) (hv : fn.view = true) (hvw : views H args G = some (as, bs, kp)) (ho : out.all flat2 = true)
    (hro : b.ro = false) (hfl : b.cells.all flat1 = true) (h : W (ecall G T X M) (sliceK fn.res kp o z n c b out) [] (number as 0) ⟨bs ++ T, kp, kp⟩ fn.code) : ecall G T X M f args H = some (.ok (pack (.sl H.next o z n c :: out)), H.take1 b) := by
  have fin : ∀ (s : St) (i : Nat), kp ≤ i → s.H.get i = some b → backs s.H kp H (.sl i o z n c :: out) = some (.sl H.next o z n c :: out, H.take1 b) := fun s i h1 h2 => by
    simp only [backs, flat2, flat1, Bool.false_eq_true, if_false, h1, ho, and_self, if_true, h2, hro, hfl]
    rfl
  refine ecall_wpv G T X M hX hM hv hvw (wp_mono fn.code (fun x s hx => ?_) (wp_W _ _ _ _ h))
  cases x with
  | nrm => obtain ⟨i, h1, h2, h3⟩ := hx; exact ⟨_, h1, _, fin s i h2 h3, rfl⟩
  | ret => obtain ⟨i, h1, h2, h3⟩ := hx; exact ⟨_, h1, _, fin s i h2 h3, rfl⟩
  | exit id => exact hx.elim
  | pan v => exact hx.elim
end

/-! ### Views of flat arguments -/

theorem views_nil (H : AH) (k : Nat) : views H [] k = some ([], [], k) := rfl
theorem views_flat {H : AH} {v : AV} {l : List AV} {k : Nat} (hf : flat1 v = true) {as : List AV} {bs : List (Nat × Blk)} {k' : Nat} (h : views H l k = some (as, bs, k')) : views H (v :: l) k = some (v :: as, bs, k') := by
  cases v <;> first
    | (simp [flat1] at hf; done)
    | (simp [views, viewCs, hf, h])
theorem viewCs_flat {H : AH} {k : Nat} : ∀ {cs : List AV}, cs.all flat1 = true → viewCs H cs k = some (cs, [], k)
  | [], _ => rfl
  | c :: cs, h => by
    simp only [List.all_cons, Bool.and_eq_true] at h
    simp [viewCs, h.1, viewCs_flat h.2]
theorem views_agg {H : AH} {cs : List AV} {l : List AV} {k : Nat} (hf : cs.all flat1 = true) {as : List AV} {bs : List (Nat × Blk)} {k' : Nat} (h : views H l k = some (as, bs, k')) : views H (.agg cs :: l) k = some (.agg cs :: as, bs, k') := by
  simp [views, viewCs_flat hf, h]
theorem views_slice {H : AH} {i o z n : Nat} {c : Option Nat} {b : Blk} {l : List AV} {k : Nat} (hb : H.get i = some b) (hl : o + n * z ≤ b.cells.length) (hf : ((b.cells.drop o).take (n * z)).all flat1 = true) {as : List AV} {bs : List (Nat × Blk)} {k' : Nat} (h : views H l (k + 1) = some (as, bs, k')) :
    views H (.sl i o z n c :: l) k = some (.sl k 0 z n c :: as, (k, ⟨(b.cells.drop o).take (n * z), b.ro, b.ty, false, false⟩) :: bs, k') := by
  have h1 : viewCs H [.sl i o z n c] k = some ([.sl k 0 z n c], [(k, ⟨(b.cells.drop o).take (n * z), b.ro, b.ty, false, false⟩)], k + 1) := by
    simp only [viewCs, flat1, Bool.false_eq_true, if_false, hb, hl, hf, and_self, if_true]
  simp only [views, h1, h]
  rfl

end Go.Am
