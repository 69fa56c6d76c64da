/-
A region that draws its order, continued: what holds in the midst of whatever order, and that each next operation keeps it. Conditions: those that each theorem names.
-/
import Derived.Test.YtjpppajbhpbkiaaDoorAm16
set_option linter.unusedSimpArgs false
set_option linter.unusedVariables false
namespace Go.Am
open Go.RowKit

section
variable {P : Program} {B : Base} {call : Call} {nt : Nat} {ops : Array Oper} {is : List DIns} {e0 : Env} {H0 : AH} {T : Nat → DSt}

theorem Rel.congr {φ : Emb} {H H' : AH} {w : World} (h : Rel B φ H w) (hg : ∀ i, H'.get i = H.get i) (hn : H'.next = H.next) (hf : H'.floor = H.floor) : Rel B φ H' w :=
  h.sub (fun i b hb => by rw [← hg]; exact hb) (fun i b hb => by rw [hn]; exact h.live i b (by rw [← hg]; exact hb)) (by rw [hn, hf]; exact h.fl) (by rw [hf]; exact Nat.le_refl _)

theorem Step.congr {φ ψ : Emb} {H H1 H2 : AH} {w w' : World} (h : Step B φ H w ψ H1 w') (hg : ∀ i, H2.get i = H1.get i) (hn : H2.next = H1.next) (hf : H2.floor = H1.floor) : Step B φ H w ψ H2 w' :=
  ⟨h.rel.congr hg hn hf, fun i hi => h.emb i (by rw [hn] at hi; exact hi), by rw [hn]; exact h.nxt, hf.trans h.flo, fun i hi => (hg i).trans (h.old i hi), fun i b hi hb => h.sub i b hi (by rw [← hg]; exact hb),
    h.os, h.tape, h.output, h.size, h.frame, fun p ⟨i, b, s, m, a1, a2, a3, a4⟩ => h.foot p ⟨i, b, s, m, by rw [← hf]; exact a1, by rw [← hg]; exact a2, a3, a4⟩⟩

structure Inv (call : Call) (B : Base) (is : List DIns) (e0 : Env) (H0 : AH) (T : Nat → DSt) (a0 : Act) (φ0 : Emb) (w0 : World) (S : Nat → Prop) (a : Act) (w : World) (φ : Emb) (m : Nat) (H : AH) : Prop where
  le : m ≤ is.length
  dn : ∀ (j : Nat) (d : DIns), S j → is[j]? = some d → ∀ k ∈ d.deps, S k
  sub : ∀ j, S j → j < is.length
  base1 : ∀ (k : Nat) (d : DIns), is[k]? = some d → d.kind ≠ 0 → k < m → S k
  base2 : ∀ k, m ≤ k → Two is e0 T k → ¬ S k
  seg0 : (T m).seg = []
  bnd : ∀ i b, (T m).base.get i = some b → i < (T m).next
  nb : ∀ k, S k → One is e0 T k → m ≤ k → ∀ i b, lk (res T k).new i = some b → (T k).next ≤ i ∧ i < (T (k + 1)).next
  bfl : (T m).base.floor = H0.floor
  hnext : H.next = (T is.length).next
  hfloor : H.floor = H0.floor
  get : ∀ i b, H.get i = some b ↔ ((T m).base.get i = some b ∨ ∃ k, m ≤ k ∧ S k ∧ One is e0 T k ∧ lk (res T k).new i = some b)
  step : Step B φ0 H0 w0 φ H w
  free : ∀ k, k < is.length → ¬ S k → Free φ (T k).next (T (k + 1)).next
  env1 : ∀ (k : Nat) (d : DIns) (t : Nat), S k → is[k]? = some d → d.ins.dst = some t → VR φ (res T k).v (a.tmps.getD t Go.undef)
  env2 : ∀ t, (∀ (k : Nat) (d : DIns), S k → is[k]? = some d → d.ins.dst ≠ some t) → a.tmps.getD t Go.undef = a0.tmps.getD t Go.undef
  size : a.tmps.size = a0.tmps.size
  defers : a.defers = a0.defers

theorem lk_dst_none {L : List DRes} {t : Nat} (h : lk (L.flatMap (fun r => match r.dst with | some d => [(d, r.v)] | none => [])) t = none) {r : DRes} (hr : r ∈ L) : r.dst ≠ some t := by
  induction L with
  | nil => simp at hr
  | cons q L ih =>
    rw [List.flatMap_cons, lk_append] at h
    intro hd
    rcases List.mem_cons.1 hr with rfl | hr'
    · simp [hd, lk] at h
    · refine ih ?_ hr' hd
      cases hx : lk (match q.dst with | some d => [(d, q.v)] | none => []) t with
      | none => rw [hx] at h; simpa using h
      | some _ => rw [hx] at h; simp at h

theorem lk_msk_none {L : List (DIns × Nat)} {t : Nat} (h : lk (L.flatMap (fun (q, _) => match q.ins.dst with | some d => [(d, AV.undef)] | none => [])) t = none) {d : DIns} {k : Nat} (hr : (d, k) ∈ L) : d.ins.dst ≠ some t := by
  induction L with
  | nil => simp at hr
  | cons q L ih =>
    rw [List.flatMap_cons, lk_append] at h
    intro hd
    rcases List.mem_cons.1 hr with rfl | hr'
    · simp [hd, lk] at h
    · refine ih ?_ hr' hd
      cases hx : lk (match q.1.ins.dst with | some d => [(d, AV.undef)] | none => []) t with
      | none => rw [hx] at h; simpa using h
      | some _ => rw [hx] at h; simp at h

/-- The temporaries as an operation that comes next sees them. -/
theorem Inv.envR {a0 φ0 w0 S a w φ m H} (h : Inv call B is e0 H0 T a0 φ0 w0 S a w φ m H) (D : DOk P nt ops is) (tr : Tr call is e0 H0 T) {i : Nat} {o : DIns} (ho : is[i]? = some o) (hi : ¬ S i) (hdeps : ∀ k ∈ o.deps, S k)
    (he0 : EnvR φ0 e0 a0.tmps) (hle : φ0.le φ) : EnvR φ (dEnv (T i).done is o.deps o.late i e0) a.tmps := by
  intro t
  have hin : i < is.length := Tr.lt_of ho
  unfold dEnv Env.at
  rw [List.append_assoc, lk_append]
  cases h1 : lk ((((T i).done).filter (fun r => o.deps.contains r.j)).flatMap (fun r => match r.dst with | some d => [(d, r.v)] | none => [])) t with
  | some v =>
    simp only [Option.some_or, Option.getD_some]
    have : ∃ r ∈ ((T i).done).filter (fun r => o.deps.contains r.j), r.dst = some t ∧ r.v = v := by
      clear h
      revert h1
      induction ((T i).done).filter (fun r => o.deps.contains r.j) with
      | nil => simp [lk]
      | cons r L ih =>
        intro h1
        rw [List.flatMap_cons, lk_append] at h1
        cases hd : r.dst with
        | none => simp [hd, lk] at h1; obtain ⟨q, q1, q2⟩ := ih h1; exact ⟨q, by simp [q1], q2⟩
        | some d =>
          simp only [hd, lk] at h1
          by_cases hdt : d = t
          · simp [hdt] at h1; exact ⟨r, by simp, by rw [hd, hdt], h1⟩
          · simp [hdt] at h1; obtain ⟨q, q1, q2⟩ := ih h1; exact ⟨q, by simp [q1], q2⟩
    obtain ⟨r, hr, hrd, rfl⟩ := this
    rw [List.mem_filter] at hr
    obtain ⟨k, hk, rfl⟩ := (tr.done_mem i (by omega) r).1 hr.1
    obtain ⟨ok, hok⟩ := Tr.some_of (is := is) (j := k) (by omega)
    have hres := tr.res_cons hok
    have hkd : k ∈ o.deps := by have := hr.2; rw [hres.2.1] at this; simpa using this
    exact h.env1 k ok t (hdeps k hkd) hok (by rw [← hres.2.2]; exact hrd)
  | none =>
    simp only [Option.none_or]
    rw [lk_append]
    cases h2 : lk (((is.zipIdx).filter fun (q, k) => !(o.deps.contains k) && !(o.late.contains k) && k != i).flatMap fun (q, _) => match q.ins.dst with | some d => [(d, AV.undef)] | none => []) t with
    | some v =>
      simp only [Option.some_or, Option.getD_some]
      have : v = .undef := by
        revert h2
        induction ((is.zipIdx).filter fun (q, k) => !(o.deps.contains k) && !(o.late.contains k) && k != i) with
        | nil => simp [lk]
        | cons r L ih =>
          intro h2
          rw [List.flatMap_cons, lk_append] at h2
          obtain ⟨q, k⟩ := r
          cases hd : q.ins.dst with
          | none => simp [hd, lk] at h2; exact ih h2
          | some d =>
            simp only [hd, lk] at h2
            by_cases hdt : d = t
            · simp [hdt] at h2; exact h2.symm
            · simp [hdt] at h2; exact ih h2
      subst this
      exact VR.undef _
    | none =>
      simp only [Option.none_or]
      have hno : ∀ (k : Nat) (d : DIns), S k → is[k]? = some d → d.ins.dst ≠ some t := by
        intro k d hk hd hdst
        have hki : k ≠ i := fun e => hi (e ▸ hk)
        have hkl : ¬ k ∈ o.late := fun hl => hi (h.dn k d hk hd i ((D.late ho hd).1 hl))
        by_cases hkd : k ∈ o.deps
        · have hklt := D.lt ho hkd
          have hmem : res T k ∈ ((T i).done).filter (fun r => o.deps.contains r.j) := by
            rw [List.mem_filter]
            refine ⟨(tr.done_mem i (by omega) _).2 ⟨k, hklt, rfl⟩, ?_⟩
            rw [(tr.res_cons hd).2.1]
            simpa using hkd
          have hrd := (tr.res_cons hd).2.2
          exact lk_dst_none h1 hmem (by rw [hrd]; exact hdst)
        · have hmem : (d, k) ∈ ((is.zipIdx).filter fun (q, k) => !(o.deps.contains k) && !(o.late.contains k) && k != i) := by
            rw [List.mem_filter]
            refine ⟨?_, by simp [hkd, hkl, hki]⟩
            rw [List.mem_iff_getElem?]
            exact ⟨k, by simp [List.getElem?_zipIdx, hd]⟩
          exact lk_msk_none h2 hmem hdst
      rw [h.env2 t hno]
      exact (he0 t).mono hle

end
end Go.Am
