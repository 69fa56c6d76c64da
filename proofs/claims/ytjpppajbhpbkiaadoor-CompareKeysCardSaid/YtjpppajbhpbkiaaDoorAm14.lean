/-
A region whose operations come in the order of the text. Conditions: the heap stands to the world, the temporaries to the values, and calls do what the machine's calls do.
-/
import Derived.Test.YtjpppajbhpbkiaaDoorAm13
set_option linter.unusedSimpArgs false
set_option linter.unusedVariables false
namespace Go.Am
open Go.RowKit

section
variable {P : Program} {B : Base} {φ : Emb} {w : World} {a : Act} {o : Oper} {call : Call}

theorem does_upon {R : Ending → World → Prop} {r : Result Next} {next : Act → World → Prop} {Q : Exit → Act → World → Prop} (h : Does P R r) (hv : ∀ v w', R (.returned v) w' → next (a.put o.dst v) w')
    (hp : ∀ ch w', R (.panicked ch) w' → Q (.panic ch) a w') (ho : ∀ w', ¬ R .outgrown w') : o.upon P a next Q r := by
  cases r with
  | ok n w' =>
    cases n <;> simp only [Does] at h <;> first | exact h.elim | skip
    case value v => exact hv v w' h
    case skip => exact hv _ w' h
    case enter f args =>
      rw [Oper.upon_enter]
      refine Calls.mono h fun e w'' hr => ?_
      cases e with
      | returned v => exact hv v w'' hr
      | panicked ch => exact hp ch w'' hr
      | outgrown => exact absurd hr (ho w'')
  | halt x w' =>
    cases x <;> simp only [Does] at h <;> first | exact h.elim | skip
    exact hp _ w' h

inductive XR (φ : Emb) : AX → Exit → Prop
  | nrm : XR φ .nrm .normal
  | exit (id : Nat) : XR φ (.exit id) (.exit id)
  | ret : XR φ .ret .ret
  | pan {v v'} : VR φ v v' → XR φ (.pan v) (.panic [{ v := v', recovered := false }])

theorem getD_get {t : Array Value} {n : Nat} {b : Bool} (h : t.getD n Go.undef = .bool b) : t[n]? = some (.bool b) := by
  cases hx : t[n]? with
  | none => simp [Array.getD_eq_getD_getElem?, hx, Go.undef] at h
  | some v => simp [Array.getD_eq_getD_getElem?, hx] at h; rw [h]

theorem yielded_bool {ops : Array Oper} {t : Array Value} {j g : Nat} {b : Bool} (hd : (ops[j]?).bind (·.dst) = some g) (h : t.getD g Go.undef = .bool b) : yielded ops t j = some b := by
  simp only [yielded, hd, Option.bind_some, getD_get h]

theorem yielded_none {ops : Array Oper} {t : Array Value} {j g : Nat} (hd : (ops[j]?).bind (·.dst) = some g) (h : t.getD g Go.undef = .tuple #[]) : yielded ops t j = none := by
  simp only [yielded, hd, Option.bind_some]
  cases hx : t[g]? with
  | none => rfl
  | some v => simp [Array.getD_eq_getD_getElem?, hx] at h; rw [h]

/-- An operation that the compiler doesn't take stops the machine. -/
theorem cins_cases (P : Program) (nt : Nat) (ops : Array Oper) (o : Oper) : cins P nt ops o = ⟨none, bad, none⟩ ∨
    (o.dst.all (· < nt) = true ∧ (cins P nt ops o).dst = o.dst ∧ (cins P nt ops o).op = (cop P o).getD bad ∧
      ((o.guard = none ∧ (cins P nt ops o).guard = none) ∨ ∃ j b g, o.guard = some (j, b) ∧ (ops[j]?).bind (·.dst) = some g ∧ (cins P nt ops o).guard = some (g, b))) := by
  unfold cins
  by_cases hd : o.dst.all (· < nt) = true
  · rw [if_pos hd]
    cases hg : o.guard with
    | none => exact .inr ⟨hd, rfl, rfl, .inl ⟨rfl, rfl⟩⟩
    | some p =>
      obtain ⟨j, b⟩ := p
      cases hj : (ops[j]?).bind (·.dst) with
      | none => exact .inl (by simp [hj])
      | some g => exact .inr (by simp only [hj]; exact ⟨hd, trivial, trivial, .inr ⟨j, b, g, rfl, hj, rfl⟩⟩)
  · rw [if_neg hd]; exact .inl rfl

/-- Whether an operation is wanted. -/
theorem want_ok {ops : Array Oper} {i : AIns} {e : Env} (he : EnvR φ e a.tmps) {b : Bool} (h : want e i.guard = some b)
    (hg : (o.guard = none ∧ i.guard = none) ∨ ∃ j b g, o.guard = some (j, b) ∧ (ops[j]?).bind (·.dst) = some g ∧ i.guard = some (g, b)) : Region.wanted o (yielded ops a.tmps) = b := by
  rcases hg with ⟨h1, h2⟩ | ⟨j, wb, g, h1, hd, h2⟩
  · rw [h2] at h
    simp [want] at h; subst h
    simp [Region.wanted, h1]
  · rw [h2] at h
    simp only [want] at h
    simp only [Region.wanted, h1]
    have hv := he g
    split at h
    · rename_i b' hb
      simp at h; subst h
      rw [hb] at hv
      rw [yielded_bool hd hv.bool_inv]
      cases b' <;> cases wb <;> rfl
    · rename_i hb
      simp at h; subst h
      rw [hb] at hv
      obtain ⟨ds, h1, h2⟩ := hv.tup_inv
      have : ds = #[] := by
        have := h1.nil_inv
        apply Array.ext'
        simpa using this
      subst this
      rw [yielded_none hd h2]
      rfl
    · simp at h

theorem envR_put {ψ : Emb} {e : Env} {t : Array Value} (he : EnvR ψ e t) {d : Option Nat} (hd : d.all (· < t.size) = true) {v : AV} {v' : Value} (hv : VR ψ v v') (dfs : List Deferred) :
    EnvR ψ (putd e d v) ((Act.mk t dfs).put d v').tmps := by
  intro n
  cases d with
  | none => exact he n
  | some d =>
    have hlt : d < t.size := by simpa using hd
    simp only [putd, Act.put]
    by_cases hn : d = n
    · subst hn
      simp [Env.at, lk, Array.getD_eq_getD_getElem?, hlt]
      exact hv
    · have h1 : Env.at ((d, v) :: e) n = Env.at e n := by simp [Env.at, lk, hn]
      rw [h1]
      have h2 : (t.setIfInBounds d v').getD n Go.undef = t.getD n Go.undef := by
        simp [Array.getD_eq_getD_getElem?, Array.getElem?_setIfInBounds_ne hn]
      rw [h2]
      exact he n

theorem at_know (e : Env) (g : Option (Nat × Bool)) (n : Nat) : (know e g).at n = e.at n := by
  cases g with
  | none => rfl
  | some p =>
    obtain ⟨g, b⟩ := p
    by_cases h : g = n
    · subst h; simp [know, Env.at, lk]
    · simp [know, Env.at, lk, h]

theorem at_knowA (e : Env) (c : Arg) (n : Nat) : (knowA e c).at n = e.at n := by
  cases c with
  | c _ => rfl
  | t g =>
    by_cases h : g = n
    · subst h; simp [knowA, Env.at, lk]
    · simp [knowA, Env.at, lk, h]

theorem envR_know {φ : Emb} {e : Env} {t : Array Value} (h : EnvR φ e t) (g : Option (Nat × Bool)) : EnvR φ (know e g) t := fun n => by rw [at_know]; exact h n
theorem envR_knowA {φ : Emb} {e : Env} {t : Array Value} (h : EnvR φ e t) (c : Arg) : EnvR φ (knowA e c) t := fun n => by rw [at_knowA]; exact h n

theorem put_tmps_size (a : Act) (d : Option Nat) (v : Value) : (a.put d v).tmps.size = a.tmps.size := by
  cases d <;> simp [Act.put]

theorem put_tmps_defers (a : Act) (d : Option Nat) (v : Value) : (a.put d v).defers = a.defers := by
  cases d <;> simp [Act.put]

theorem bad_none {e : Env} {H : AH} : exe call e bad H = none := by simp [exe, bad, Arg.val]

/-- What one operation that is wanted leaves. -/
theorem ins_ok (hcall : CallOk P B call) {ops : Array Oper} {nt : Nat} {e : Env} {H H' : AH} {out : Out} (hr : Rel B φ H w) (hg : GlobR P φ) (he : EnvR φ e a.tmps) (hf : Free φ H.next H'.next)
    (hx : exe call e (cins P nt ops o).op H = some (out, H')) : Does P (Post B φ H w out H') ((execOp a.eval o).run P w) := by
  rcases cins_cases P nt ops o with h | ⟨_, _, h, _⟩
  · rw [h, bad_none] at hx; cases hx
  · rw [h] at hx
    cases hc : cop P o with
    | none => simp only [hc, Option.getD_none] at hx; rw [bad_none] at hx; cases hx
    | some op => simp only [hc, Option.getD_some] at hx; exact exe_ok hcall hr hg he hf hc hx

def CallMono (call : Call) : Prop := ∀ f args H out H', call f args H = some (out, H') → H.next ≤ H'.next

theorem store_next {H H' : AH} {i o : Nat} {vs : List AV} (h : H.store i o vs = some H') : H'.next = H.next := by
  unfold AH.store at h
  repeat' split at h
  all_goals first | (simp at h; done) | (simp at h; subst h; rfl)

theorem okM_next {H H' : AH} {v : Option AV} {out : Out} (h : okM H v = some (out, H')) : H'.next = H.next := by
  obtain ⟨_, _, _, rfl⟩ := okM_inv h; rfl
theorem ok1_next {H H' : AH} {v : AV} {out : Out} (h : ok1 H v = some (out, H')) : H'.next = H.next := by
  obtain ⟨_, rfl⟩ := ok1_inv h; rfl
theorem ok1_nextG {G H' : AH} {v : AV} {out : Out} (h : ok1 G v = some (out, H')) : H' = G := by
  obtain ⟨_, rfl⟩ := ok1_inv h; rfl

theorem aapp_next {H H' : AH} {ty z bytes : Nat} {s : AV} {new : List AV} {out : Out} (h : aapp H ty z bytes s new = some (out, H')) : H.next ≤ H'.next := by
  unfold aapp at h
  repeat' split at h
  all_goals first
    | (simp at h; done)
    | (have := ok1_nextG h; subst this; first | exact Nat.le_refl _ | exact Nat.le_succ _)

theorem exe_next (hm : CallMono call) {e : Env} {op : AOp} {H H' : AH} {out : Out} (h : exe call e op H = some (out, H')) : H.next ≤ H'.next := by
  cases op <;> simp only [exe] at h
  all_goals (repeat' split at h)
  all_goals first
    | (simp at h; done)
    | exact hm _ _ _ _ _ h
    | exact Nat.le_of_eq (okM_next h).symm
    | exact Nat.le_of_eq (ok1_next h).symm
    | (have := ok1_nextG h; subst this; first | exact Nat.le_refl _ | exact Nat.le_succ _)
    | exact aapp_next h
    | (simp only [Option.map_eq_some_iff, Prod.mk.injEq] at h; obtain ⟨H2, h1, _, rfl⟩ := h; exact Nat.le_of_eq (store_next h1).symm)
    | (obtain ⟨_, _, _, rfl⟩ := okM_inv h; exact Nat.le_refl _)
    | (simp only [Option.some.injEq, Prod.mk.injEq] at h; obtain ⟨_, rfl⟩ := h; exact Nat.le_refl _)

theorem runR_next (hm : CallMono call) : ∀ (l : List AIns) {s s' : St} {x : AX}, runR call l s = some (x, s') → s.H.next ≤ s'.H.next
  | [], s, s', x, h => by simp [runR] at h; obtain ⟨_, rfl⟩ := h; exact Nat.le_refl _
  | i :: l, s, s', x, h => by
    simp only [runR] at h
    split at h
    · cases h
    · have := runR_next hm l h; exact this
    · split at h
      · cases h
      · rename_i v H hexe
        have := runR_next hm l h
        exact Nat.le_trans (exe_next hm hexe) this
      · rename_i v H hexe
        simp at h
        obtain ⟨_, rfl⟩ := h
        exact exe_next hm hexe

/-- The operations of a region, one behind the other. -/
theorem list_ok (hcall : CallOk P B call) (hm : CallMono call) {ops : Array Oper} {nt : Nat} {Q : Exit → Act → World → Prop} : ∀ (l : List Oper) {φ : Emb} {a : Act} {w : World} {s s' : St} {x : AX}, runR call (l.map (cins P nt ops)) s = some (x, s') →
    Rel B φ s.H w → GlobR P φ → EnvR φ s.e a.tmps → nt ≤ a.tmps.size → Free φ s.H.next s'.H.next →
    (∀ ψ ex a' w', XR ψ x ex → Step B φ s.H w ψ s'.H w' → EnvR ψ s'.e a'.tmps → a'.tmps.size = a.tmps.size → a'.defers = a.defers → Q ex a' w') → wpList P ops Q l a w
  | [], φ, a, w, s, s', x, hx, hr, hg, he, hn, hf, hQ => by
    simp [runR] at hx
    obtain ⟨rfl, rfl⟩ := hx
    exact hQ φ .normal a w .nrm (Step.refl hr) he rfl rfl
  | o :: l, φ, a, w, s, s', x, hx, hr, hg, he, hn, hf, hQ => by
    simp only [List.map_cons, runR] at hx
    rcases cins_cases P nt ops o with hbad | ⟨hd, hdst, hop, hgu⟩
    · rw [hbad] at hx
      simp only [want, bad_none] at hx
      cases hx
    have hdl : o.dst.all (· < a.tmps.size) = true := by
      cases hod : o.dst with
      | none => rfl
      | some d => simp [hod] at hd ⊢; omega
    split at hx
    · cases hx
    · rename_i hw
      have h := want_ok (ops := ops) he hw hgu
      unfold wpList
      rw [if_neg (by rw [h]; simp)]
      rw [hdst] at hx
      refine list_ok hcall hm l hx hr hg (envR_put (envR_know he _) hdl VR.tupn a.defers) (by rw [put_tmps_size]; exact hn) hf fun ψ ex a' w' h1 h2 h3 h4 h5 => ?_
      exact hQ ψ ex a' w' h1 h2 h3 (by rw [h4, put_tmps_size]) (by rw [h5, put_tmps_defers])
    · rename_i hw
      have h := want_ok (ops := ops) he hw hgu
      unfold wpList
      rw [if_pos h]
      left
      split at hx
      · cases hx
      · rename_i v H hexe
        have hn1 := exe_next hm hexe
        have hn2 := runR_next hm _ hx
        have h1 := ins_ok hcall hr hg he (hf.mono (Nat.le_refl _) hn2) hexe
        unfold Oper.wp
        refine does_upon h1 ?_ ?_ ?_
        · rintro v' w' ⟨ψ, hst, v2, e1, e2⟩
          simp only [Ending.returned.injEq] at e1
          subst e1
          have hle := hst.le (hf.mono (Nat.le_refl _) hn2)
          rw [hdst] at hx
          refine list_ok hcall hm l hx hst.rel (hg.mono hle) (envR_put (envR_know (he.mono hle) _) hdl e2 a.defers) (by rw [put_tmps_size]; exact hn) (hst.free hf) fun χ ex a' w2 g1 g2 g3 g4 g5 => ?_
          exact hQ χ ex a' w2 g1 (hst.trans g2) g3 (by rw [g4, put_tmps_size]) (by rw [g5, put_tmps_defers])
        · rintro ch w' ⟨ψ, hst, v2, e1, e2⟩
          cases e1
        · rintro w' ⟨ψ, hst, v2, e1, e2⟩
          cases e1
      · rename_i v H hexe
        simp at hx
        obtain ⟨rfl, rfl⟩ := hx
        have h1 := ins_ok hcall hr hg he hf hexe
        unfold Oper.wp
        refine does_upon h1 ?_ ?_ ?_
        · rintro v' w' ⟨ψ, hst, v2, e1, e2⟩
          cases e1
        · rintro ch w' ⟨ψ, hst, v2, e1, e2⟩
          simp only [Ending.panicked.injEq] at e1
          subst e1
          exact hQ ψ _ a w' (.pan e2) hst (he.mono (hst.le hf)) rfl rfl
        · rintro w' ⟨ψ, hst, v2, e1, e2⟩
          cases e1

end
end Go.Am
