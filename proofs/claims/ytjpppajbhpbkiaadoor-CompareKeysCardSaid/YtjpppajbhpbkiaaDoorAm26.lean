/-
The abstract machine's calls are the model's calls. Conditions: the machine's table was compiled from the program's functions; its rows for functions without a text do what those do.
-/
import Derived.Test.YtjpppajbhpbkiaaDoorAm25
set_option linter.unusedSimpArgs false
set_option linter.unusedVariables false
namespace Go.Am
open Go.RowKit

section
variable {P : Program} {B : Base}

theorem acall_next {G : Nat} {T : List (Nat × Blk)} {X : Ext} {M : Tab} (hX : ExtOk P B X) : ∀ n, CallMono (acall G T X M n)
  | 0 => fun f args H out H' h => by cases h
  | n + 1 => fun f args H out H' h => by
    simp only [acall] at h
    split at h
    · rename_i g hg
      exact hX.next f g args H out H' hg h
    · split at h
      · cases h
      · rename_i fn hfn
        split at h
        · split at h
          · cases h
          · split at h
            · split at h
              · split at h
                · rename_i hb
                  simp at h; obtain ⟨_, rfl⟩ := h
                  exact backs_next hb
                · cases h
              · cases h
            · split at h
              · split at h
                · rename_i hb
                  simp at h; obtain ⟨_, rfl⟩ := h
                  exact backs_next hb
                · cases h
              · cases h
            · cases h
        · split at h
          · rename_i s hs
            split at h
            · rename_i vs hv
              simp at h; obtain ⟨_, rfl⟩ := h
              have := run_next (acall_next hX n) n _ hs; exact this
            · cases h
          · rename_i s hs
            split at h
            · rename_i vs hv
              simp at h; obtain ⟨_, rfl⟩ := h
              have := run_next (acall_next hX n) n _ hs; exact this
            · cases h
          · rename_i v s hs
            simp at h; obtain ⟨_, rfl⟩ := h
            have := run_next (acall_next hX n) n _ hs; exact this
          · cases h

theorem acall_ok {X : Ext} {M : Tab} (hX : ExtOk P B X) (hM : TabOk P M) (hmix : P.follows .mixedOrders = true) (hG : B.G = P.globals.size) : ∀ n, CallOk P B (acall B.G B.T X M n)
  | 0 => fun f args H out H' φ vs w h => by cases h
  | n + 1 => fun f args H out H' φ vs w h hr hv hg hf => by
    have hc := acall_ok hX hM hmix hG n
    have hmono := acall_next (G := B.G) (T := B.T) (M := M) hX n
    simp only [acall] at h
    split at h
    · rename_i g hxg
      exact hX.does f g args H out H' φ vs w hxg h hr hv hg hf
    · split at h
      · cases h
      · rename_i fn hfn
        obtain ⟨F, l, vw, hF, hl⟩ := hM f fn hfn
        unfold cfunL at hl
        simp only [Option.map_eq_some_iff] at hl
        obtain ⟨fn0, hl0, hl1⟩ := hl
        unfold cfun at hl0
        split at hl0
        · rename_i c rs hb hrs
          split at hl0
          · rename_i hname
            simp only [Option.some.injEq] at hl0
            subst hl0
            subst hl1
            simp only at h
            have hcr : CR P F.ntmps c (relive (comp P F.ntmps c) l).1 := relive_cr c l
            have hname' : F.name ≠ "runtime.NumGoroutine" := by simpa using hname
            have hcall : (callFunc f vs.toArray).run P w = .ok (.enter f vs.toArray) w := by simp [callFunc, hF, hname', hb]
            rw [hcall]
            show Calls P f vs.toArray w _
            have hsz : F.ntmps ≤ (vs.toArray ++ Array.replicate (F.ntmps - vs.toArray.size) Go.undef).size := by simp; omega
            split at h
            · -- by value
              split at h
              · cases h
              · rename_i as bs kp hvw
                obtain ⟨φp, hrp, hvp, hgp, hfp⟩ := views_rel hr hvw hv
                have hgp' : GlobR P φp := fun g hg' => hgp g (by rw [hG]; exact hg')
                have henv := envR_args hvp (F.ntmps - vs.toArray.size)
                have hemp : ∀ p, ¬ Foot φp ⟨bs ++ B.T, kp, kp⟩ p := fun p ⟨i, b, s, m, f1, f2, f3, f4⟩ => by
                  have := hrp.live i b f2
                  have f1' : kp ≤ i := f1
                  have f2' : i < kp := this
                  omega
                have fin : ∀ (x : AX) (s : St), run (acall B.G B.T X M n) n (relive (comp P F.ntmps c) l).1 ⟨number as 0, ⟨bs ++ B.T, kp, kp⟩⟩ = some (x, s) → (x = .nrm ∨ x = .ret) →
                    (match resAll s.e s.H rs with | some vs => (match backs s.H kp H vs with | some (vs', H') => some (Out.ok (pack vs'), H') | none => none) | none => none) = some (out, H') →
                    Calls P f vs.toArray w (Post B φ H w out H') := by
                  intro x s hs hx hres
                  split at hres
                  · rename_i rv hrv
                    split at hres
                    · rename_i rv' H1 hbk
                      simp only [Option.some.injEq, Prod.mk.injEq] at hres
                      obtain ⟨rfl, rfl⟩ := hres
                      refine calls_of_wp hF hb (run_ok hc hmono hmix n hcr hs hrp hgp' henv hsz (fun i hi _ => hfp i hi) fun ψ ex a' w' q1 q2 q3 q4 q5 => ?_)
                      obtain ⟨us, r1, r2⟩ := results_ok q2.rel q3 hrs hrv
                      obtain ⟨χ, t1, t2⟩ := backs_ok hr rfl hemp q2 hbk r2 hf
                      have hp : Post B φ H w (.ok (pack rv')) H1 (.returned (packV us)) w' := Post.ok t1 (pack_ok t2)
                      rcases hx with rfl | rfl
                      · cases q1; exact ⟨q5, _, r1, hp⟩
                      · cases q1; exact ⟨q5, _, r1, hp⟩
                    · cases hres
                  · cases hres
                split at h
                · rename_i s hs
                  exact fin .nrm s hs (.inl rfl) h
                · rename_i s hs
                  exact fin .ret s hs (.inr rfl) h
                · cases h
            · have henv := envR_args hv (F.ntmps - vs.toArray.size)
              have fin : ∀ (x : AX) (s : St), run (acall B.G B.T X M n) n (relive (comp P F.ntmps c) l).1 ⟨number args 0, H⟩ = some (x, s) → (x = .nrm ∨ x = .ret) → (match resAll s.e s.H rs with | some vs => some (Out.ok (pack vs), s.H) | none => none) = some (out, H') →
                  Calls P f vs.toArray w (Post B φ H w out H') := by
                intro x s hs hx hres
                split at hres
                · rename_i rv hrv
                  simp only [Option.some.injEq, Prod.mk.injEq] at hres
                  obtain ⟨rfl, rfl⟩ := hres
                  refine calls_of_wp hF hb (run_ok hc hmono hmix n hcr hs hr hg henv hsz hf fun ψ ex a' w' q1 q2 q3 q4 q5 => ?_)
                  obtain ⟨us, r1, r2⟩ := results_ok q2.rel q3 hrs hrv
                  have q2' : Step B φ H w ψ s.H w' := q2
                  have hp : Post B φ H w (.ok (pack rv)) s.H (.returned (packV us)) w' := Post.ok q2' (pack_ok r2)
                  rcases hx with rfl | rfl
                  · cases q1; exact ⟨q5, _, r1, hp⟩
                  · cases q1; exact ⟨q5, _, r1, hp⟩
                · cases hres
              split at h
              · rename_i s hs
                exact fin .nrm s hs (.inl rfl) h
              · rename_i s hs
                exact fin .ret s hs (.inr rfl) h
              · rename_i v s hs
                simp only [Option.some.injEq, Prod.mk.injEq] at h
                obtain ⟨rfl, rfl⟩ := h
                refine calls_of_wp hF hb (run_ok hc hmono hmix n hcr hs hr hg henv hsz hf fun ψ ex a' w' q1 q2 q3 q4 q5 => ?_)
                cases q1 with
                | pan hv => exact ⟨q5, ψ, q2, _, rfl, hv⟩
              · cases h
          · cases hl0
        · cases hl0

end
end Go.Am
