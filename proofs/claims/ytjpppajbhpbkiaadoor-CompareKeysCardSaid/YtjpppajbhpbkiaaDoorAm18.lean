/-
A region that draws its order, continued: each next operation keeps what holds in the midst. Conditions: those that each theorem names.
-/
import Derived.Test.YtjpppajbhpbkiaaDoorAm17
set_option linter.unusedSimpArgs false
set_option linter.unusedVariables false
namespace Go.Am
open Go.RowKit

section
variable {P : Program} {B : Base} {call : Call} {nt : Nat} {ops : Array Oper} {is : List DIns} {e0 : Env} {H0 : AH} {T : Nat → DSt}

theorem lk_newBlks {l : List (Nat × Blk)} {n i : Nat} {b : Blk} : lk (newBlks l n) i = some b ↔ n ≤ i ∧ lk l i = some b := by
  unfold newBlks
  rw [lk_filter l (fun j => decide (n ≤ j)) i]
  by_cases h : n ≤ i <;> simp [h]

/-- The pieces of which what holds behind an operation is made. -/
theorem Inv.make {a0 φ0 w0 S a w φ m H} (h : Inv call B is e0 H0 T a0 φ0 w0 S a w φ m H) (D : DOk P nt ops is) (tr : Tr call is e0 H0 T) (hm : CallMono call) {i : Nat} {o : DIns} (ho : is[i]? = some o) (hdeps : ∀ k ∈ o.deps, S k) (hi : ¬ S i)
    {ψ : Emb} {v' : Value} {w' : World} {m' : Nat} {H' : AH} (hle : φ.le ψ) (hout : ∀ j, j < (T i).next ∨ (T (i + 1)).next ≤ j → ψ j = φ j) (hv : VR ψ (res T i).v v') (hd : o.ins.dst.all (· < a.tmps.size) = true)
    (g1 : m' ≤ is.length) (g2 : ∀ (k : Nat) (d : DIns), is[k]? = some d → d.kind ≠ 0 → k < m' → S k ∨ k = i) (g3 : ∀ k, m' ≤ k → Two is e0 T k → ¬ (S k ∨ k = i)) (g4 : (T m').seg = []) (g5 : ∀ j b, (T m').base.get j = some b → j < (T m').next)
    (g6 : ∀ k, (S k ∨ k = i) → One is e0 T k → m' ≤ k → ∀ j b, lk (res T k).new j = some b → (T k).next ≤ j ∧ j < (T (k + 1)).next) (g7 : (T m').base.floor = H0.floor) (g8 : H'.next = (T is.length).next) (g9 : H'.floor = H0.floor)
    (g10 : ∀ j b, H'.get j = some b ↔ ((T m').base.get j = some b ∨ ∃ k, m' ≤ k ∧ (S k ∨ k = i) ∧ One is e0 T k ∧ lk (res T k).new j = some b)) (g11 : Step B φ0 H0 w0 ψ H' w') :
    Inv call B is e0 H0 T a0 φ0 w0 (fun k => S k ∨ k = i) (a.put o.ins.dst v') w' ψ m' H' where
  le := g1
  dn := fun j d hj hjd k hk => by
    rcases hj with hj | rfl
    · exact .inl (h.dn j d hj hjd k hk)
    · rw [ho] at hjd; simp at hjd; subst hjd; exact .inl (hdeps k hk)
  sub := fun j hj => by
    rcases hj with hj | rfl
    · exact h.sub j hj
    · exact Tr.lt_of ho
  base1 := g2
  base2 := g3
  seg0 := g4
  bnd := g5
  nb := g6
  bfl := g7
  hnext := g8
  hfloor := g9
  get := g10
  step := g11
  free := fun k hk hns j hj1 hj2 => by
    have hki : k ≠ i := fun e => hns (.inr e)
    have hki' : ¬ S k := fun e => hns (.inl e)
    have hil := Tr.lt_of ho
    rw [hout j ?_]
    · exact h.free k hk hki' j hj1 hj2
    · rcases Nat.lt_or_gt_of_ne hki with hlt | hlt
      · have := tr.next_mono hm (j := k + 1) (k := i) (by omega) (by omega); omega
      · have := tr.next_mono hm (j := i + 1) (k := k) (by omega) (by omega); omega
  env1 := fun k d t hk hkd hdst => by
    rcases hk with hk | rfl
    · have hne : o.ins.dst ≠ some t := fun e => hi (by have := D.nod ho hkd e hdst; subst this; exact hk)
      have : (a.put o.ins.dst v').tmps.getD t Go.undef = a.tmps.getD t Go.undef := by
        cases hod : o.ins.dst with
        | none => rfl
        | some dd =>
          have : dd ≠ t := fun e => hne (by rw [hod, e])
          simp [Act.put, Array.getD_eq_getD_getElem?, Array.getElem?_setIfInBounds_ne this]
      rw [this]
      exact (h.env1 k d t hk hkd hdst).mono hle
    · rw [ho] at hkd; simp at hkd; subst hkd
      rw [hdst] at hd
      have hlt : t < a.tmps.size := by simpa using hd
      simp [hdst, Act.put, Array.getD_eq_getD_getElem?, hlt]
      exact hv
  env2 := fun t ht => by
    have hne : o.ins.dst ≠ some t := ht i o (.inr rfl) ho
    have : (a.put o.ins.dst v').tmps.getD t Go.undef = a.tmps.getD t Go.undef := by
      cases hod : o.ins.dst with
      | none => rfl
      | some dd =>
        have : dd ≠ t := fun e => hne (by rw [hod, e])
        simp [Act.put, Array.getD_eq_getD_getElem?, Array.getElem?_setIfInBounds_ne this]
    rw [this]
    exact h.env2 t fun k d hk hkd => ht k d (.inl hk) hkd
  size := by rw [put_tmps_size]; exact h.size
  defers := by rw [put_tmps_defers]; exact h.defers

/-- An operation that leaves the heap. -/
theorem Inv.same {a0 φ0 w0 S a w φ m H} (h : Inv call B is e0 H0 T a0 φ0 w0 S a w φ m H) (D : DOk P nt ops is) (tr : Tr call is e0 H0 T) (hm : CallMono call) {i : Nat} {o : DIns} (ho : is[i]? = some o) (hdeps : ∀ k ∈ o.deps, S k) (hi : ¬ S i)
    {v' : Value} {w' : World} (hv : VR φ (res T i).v v') (hd : o.ins.dst.all (· < a.tmps.size) = true) (hone : ¬ One is e0 T i) (htwo : ¬ Two is e0 T i) (hst : Step B φ0 H0 w0 φ H w') :
    Inv call B is e0 H0 T a0 φ0 w0 (fun k => S k ∨ k = i) (a.put o.ins.dst v') w' φ m H :=
  h.make D tr hm ho hdeps hi (Emb.le_refl φ) (fun _ _ => rfl) hv hd h.le (fun k d h1 h2 h3 => .inl (h.base1 k d h1 h2 h3))
    (fun k h1 h2 h3 => by rcases h3 with h3 | rfl; exact h.base2 k h1 h2 h3; exact htwo h2) h.seg0 h.bnd
    (fun k h1 h2 h3 => by rcases h1 with h1 | rfl; exact h.nb k h1 h2 h3; exact absurd h2 hone) h.bfl h.hnext h.hfloor
    (fun j b => by
      rw [h.get j b]
      constructor
      · rintro (h1 | ⟨k, a1, a2, a3, a4⟩)
        · exact .inl h1
        · exact .inr ⟨k, a1, .inl a2, a3, a4⟩
      · rintro (h1 | ⟨k, a1, a2, a3, a4⟩)
        · exact .inl h1
        · rcases a2 with a2 | rfl
          · exact .inr ⟨k, a1, a2, a3, a4⟩
          · exact absurd a3 hone) hst

/-- No operation that writes stands between the base and the next operation. -/
theorem Inv.between {a0 φ0 w0 S a w φ m H} (h : Inv call B is e0 H0 T a0 φ0 w0 S a w φ m H) (D : DOk P nt ops is) {i : Nat} {o : DIns} (ho : is[i]? = some o) (hdeps : ∀ k ∈ o.deps, S k) (hi : ¬ S i) (hk : o.kind ≠ 0) :
    m ≤ i ∧ ∀ k, m ≤ k → k < i → ¬ Two is e0 T k := by
  refine ⟨?_, fun k h1 h2 h3 => ?_⟩
  · rcases Nat.lt_or_ge i m with h' | h'
    · exact absurd (h.base1 i o ho hk h') hi
    · exact h'
  · obtain ⟨d, hd, hw, hk0, hk1⟩ := h3
    have hns := h.base2 k h1 ⟨d, hd, hw, hk0, hk1⟩
    rcases D.tot hd hk0 hk1 ho (by omega) hk with h4 | h4
    · have := D.lt hd h4; omega
    · exact hns (hdeps k ((D.late hd ho).1 h4))

end
end Go.Am
