/-
The machine without a bound on its steps: what a call comes to at last. Conditions: those that each theorem names.
-/
import Derived.Test.YtjpppajbhpbkiaaDoorAm26
set_option linter.unusedSimpArgs false
set_option linter.unusedVariables false
namespace Go.Am

def Call.le (c d : Call) : Prop := ∀ f args H r, c f args H = some r → d f args H = some r

section
variable {c d : Call}

theorem exe_mono (h : c.le d) {e : Env} {op : AOp} {H : AH} {r : Out × AH} (hx : exe c e op H = some r) : exe d e op H = some r := by
  cases op <;> first
    | exact hx
    | exact h _ _ _ _ hx
    | (simp only [exe] at hx ⊢
       split at hx
       · exact h _ _ _ _ hx
       · cases hx)

theorem runR_mono (h : c.le d) : ∀ (l : List AIns) {s : St} {r : AX × St}, runR c l s = some r → runR d l s = some r
  | [], s, r, hx => hx
  | i :: l, s, r, hx => by
    simp only [runR] at hx ⊢
    split at hx
    · cases hx
    · exact runR_mono h l hx
    · split at hx
      · cases hx
      · rename_i he; rw [exe_mono h he]; exact runR_mono h l hx
      · rename_i he; rw [exe_mono h he]; exact hx

theorem stepD_mono (h : c.le d) {all : List DIns} {e0 : Env} {o : DIns} {j : Nat} {t t' : DSt} (hx : stepD c all e0 o j t = some t') : stepD d all e0 o j t = some t' := by
  unfold stepD at hx ⊢
  simp only at hx ⊢
  split at hx
  · cases hx
  · exact hx
  · split at hx
    · rename_i hk
      rw [if_pos hk]
      split at hx
      · rename_i he; rw [exe_mono h he]; exact hx
      · cases hx
    · rename_i hk0
      rw [if_neg hk0]
      split at hx
      · rename_i hk1
        rw [if_pos hk1]
        split at hx
        · rename_i he; rw [exe_mono h he]; exact hx
        · cases hx
      · rename_i hk1
        rw [if_neg hk1]
        split at hx
        · rename_i he; rw [exe_mono h he]; exact hx
        · cases hx

theorem runD_mono (h : c.le d) {all : List DIns} {e0 : Env} : ∀ (l : List DIns) {j : Nat} {t t' : DSt}, runD c all e0 l j t = some t' → runD d all e0 l j t = some t'
  | [], j, t, t', hx => hx
  | o :: l, j, t, t', hx => by
    simp only [runD] at hx ⊢
    split at hx
    · rename_i h1; rw [stepD_mono h h1]; exact runD_mono h l hx
    · cases hx

theorem runDr_mono (h : c.le d) {is : List DIns} {s : St} {r : AX × St} (hx : runDr c is s = some r) : runDr d is s = some r := by
  unfold runDr at hx ⊢
  split at hx
  · rename_i h1; rw [runD_mono h is h1]; exact hx
  · cases hx

theorem iter_mono {b b' : St → Option (AX × St)} (h : ∀ s r, b s = some r → b' s = some r) {live : Option (List Nat)} : ∀ (n m : Nat) {s : St} {r : AX × St}, n ≤ m → iter b live n s = some r → iter b' live m s = some r
  | 0, m, s, r, _, hx => by cases hx
  | n + 1, 0, s, r, hn, hx => by omega
  | n + 1, m + 1, s, r, hn, hx => by
    simp only [iter] at hx ⊢
    split at hx
    · rename_i h1; rw [h _ _ h1]; exact iter_mono h n m (by omega) hx
    · rename_i h1
      rw [h _ _ hx]
      split
      · rename_i h2; simp only [Option.some.injEq] at h2; subst h2; exact absurd hx (h1 _)
      · rfl

theorem run_mono (h : c.le d) {n m : Nat} (hn : n ≤ m) : ∀ (code : ACode) {s : St} {r : AX × St}, run c n code s = some r → run d m code s = some r
  | .skip, s, r, hx => hx
  | .reg is, s, r, hx => runR_mono h is hx
  | .regd is, s, r, hx => runDr_mono h hx
  | .seq a b, s, r, hx => by
    simp only [run] at hx ⊢
    split at hx
    · rename_i h1; rw [run_mono h hn a h1]; exact run_mono h hn b hx
    · rename_i h1
      rw [run_mono h hn a hx]
      split
      · rename_i h2; simp only [Option.some.injEq] at h2; subst h2; exact absurd hx (h1 _)
      · rfl
  | .cond z a b, s, r, hx => by
    simp only [run] at hx ⊢
    split at hx
    · rename_i t ht
      cases t with
      | true => exact run_mono h hn a hx
      | false => exact run_mono h hn b hx
    · cases hx
  | .block id b, s, r, hx => by
    simp only [run] at hx ⊢
    split at hx
    · rename_i h1; rw [run_mono h hn b h1]; exact hx
    · rename_i h1
      rw [run_mono h hn b hx]
      split
      · rename_i h2; simp only [Option.some.injEq] at h2; subst h2; exact absurd hx (h1 _ _)
      · rfl
  | .loop live b, s, r, hx => by
    simp only [run] at hx ⊢
    exact iter_mono (fun s r h1 => run_mono h hn b h1) n m hn hx
  | .exit id, s, r, hx => hx
  | .ret, s, r, hx => hx
  | .trim l, s, r, hx => hx
end

theorem acall_mono (G : Nat) (T : List (Nat × Blk)) (X : Ext) (M : Tab) : ∀ n, (acall G T X M n).le (acall G T X M (n + 1))
  | 0, f, args, H, r, hx => by cases hx
  | n + 1, f, args, H, r, hx => by
    have ih := acall_mono G T X M n
    rw [acall] at hx ⊢
    split at hx
    · exact hx
    · split at hx
      · cases hx
      · rename_i fn hfn
        split at hx
        · rename_i hv
          simp only [hv, if_true]
          split at hx
          · cases hx
          · rename_i as bs kp hvw
            split at hx
            · rename_i s hs
              rw [run_mono ih (Nat.le_succ n) _ hs]; exact hx
            · rename_i s hs
              rw [run_mono ih (Nat.le_succ n) _ hs]; exact hx
            · cases hx
        · rename_i hv
          simp only [hv]
          split at hx
          · rename_i s hs
            rw [run_mono ih (Nat.le_succ n) _ hs]; exact hx
          · rename_i s hs
            rw [run_mono ih (Nat.le_succ n) _ hs]; exact hx
          · rename_i v s hs
            rw [run_mono ih (Nat.le_succ n) _ hs]; exact hx
          · cases hx

theorem acall_monos (G : Nat) (T : List (Nat × Blk)) (X : Ext) (M : Tab) {n m : Nat} (h : n ≤ m) : (acall G T X M n).le (acall G T X M m) := by
  induction m with
  | zero => obtain rfl : n = 0 := by omega
            exact fun _ _ _ _ h => h
  | succ m ih =>
    by_cases e : n = m + 1
    · subst e; exact fun _ _ _ _ h => h
    · intro f args H r hx
      exact acall_mono G T X M m f args H r (ih (by omega) f args H r hx)

/-! ### At last -/

open Classical in
/-- What a sequence that keeps its answers answers at last. -/
noncomputable def lim {α : Type} (F : Nat → Option α) : Option α := if h : ∃ n r, F n = some r then F h.choose else none

theorem lim_of {α : Type} {F : Nat → Option α} (hm : ∀ n m r, n ≤ m → F n = some r → F m = some r) {n : Nat} {r : α} (h : F n = some r) : lim F = some r := by
  have hex : ∃ n r, F n = some r := ⟨n, r, h⟩
  unfold lim
  rw [dif_pos hex]
  obtain ⟨r', hr'⟩ := hex.choose_spec
  rw [hr']
  have a := hm _ (max n hex.choose) _ (Nat.le_max_left _ _) h
  have b := hm _ (max n hex.choose) _ (Nat.le_max_right _ _) hr'
  rw [a] at b
  exact b.symm

theorem lim_some {α : Type} {F : Nat → Option α} {r : α} (h : lim F = some r) : ∃ n, F n = some r := by
  unfold lim at h
  split at h
  · rename_i hex; exact ⟨_, h⟩
  · cases h

section
variable (G : Nat) (T : List (Nat × Blk)) (X : Ext) (M : Tab)

noncomputable def ecall : Call := fun f args H => lim fun n => acall G T X M n f args H

theorem ecall_of {n : Nat} {f : FuncId} {args : List AV} {H : AH} {r : Out × AH} (h : acall G T X M n f args H = some r) : ecall G T X M f args H = some r :=
  lim_of (F := fun n => acall G T X M n f args H) (fun n m r hnm hr => acall_monos G T X M hnm f args H r hr) h

theorem ecall_some {f : FuncId} {args : List AV} {H : AH} {r : Out × AH} (h : ecall G T X M f args H = some r) : ∃ n, acall G T X M n f args H = some r := lim_some h

noncomputable def eiter (b : St → Option (AX × St)) (live : Option (List Nat)) (s : St) : Option (AX × St) := lim fun n => iter b live n s

theorem eiter_of {b : St → Option (AX × St)} {live : Option (List Nat)} {n : Nat} {s : St} {r : AX × St} (h : iter b live n s = some r) : eiter b live s = some r :=
  lim_of (F := fun n => iter b live n s) (fun n m r hnm hr => iter_mono (fun _ _ h => h) n m hnm hr) h

theorem eiter_eq (b : St → Option (AX × St)) (live : Option (List Nat)) (s : St) : eiter b live s = match b { s with e := keep s.e live } with
    | some (.nrm, s') => eiter b live s'
    | r => r := by
  have fwd : ∀ r, (match b { s with e := keep s.e live } with | some (.nrm, s') => eiter b live s' | r => r) = some r → eiter b live s = some r := by
    intro r h
    split at h
    · rename_i s' h1
      obtain ⟨n, hn⟩ := lim_some h
      refine eiter_of (n := n + 1) ?_
      simp only [iter, h1]
      exact hn
    · rename_i h1
      refine eiter_of (n := 1) ?_
      simp only [iter]
      exact h
  cases hx : eiter b live s with
  | some r =>
    obtain ⟨n, hn⟩ := lim_some hx
    cases n with
    | zero => cases hn
    | succ n =>
      simp only [iter] at hn
      split at hn
      · rename_i s' h1
        rw [h1]
        exact (eiter_of hn).symm
      · rename_i h1
        rw [hn]
        split
        · rename_i h2; simp only [Option.some.injEq] at h2; subst h2; exact absurd hn (h1 _)
        · rfl
  | none =>
    cases hy : (match b { s with e := keep s.e live } with | some (.nrm, s') => eiter b live s' | r => r) with
    | none => rfl
    | some r => rw [fwd r hy] at hx; cases hx

/-- Code, without a bound on the rounds. -/
noncomputable def erun (call : Call) : ACode → St → Option (AX × St)
  | .skip, s => some (.nrm, s)
  | .reg is, s => runR call is s
  | .regd is, s => runDr call is s
  | .seq a b, s => match erun call a s with
    | some (.nrm, s') => erun call b s'
    | r => r
  | .cond c a b, s => match c.val s.e with
    | .bool t => if t then erun call a { s with e := knowA s.e c } else erun call b { s with e := knowA s.e c }
    | _ => none
  | .block id b, s => match erun call b s with
    | some (.exit id', s') => if id' = id then some (.nrm, s') else some (.exit id', s')
    | r => r
  | .loop live b, s => eiter (erun call b) live s
  | .exit id, s => some (.exit id, s)
  | .ret, s => some (.ret, s)
  | .trim l, s => some (.nrm, { s with e := keep s.e (some l) })

theorem exe_lim {e : Env} {op : AOp} {H : AH} {r : Out × AH} (hx : exe (ecall G T X M) e op H = some r) : ∃ n, exe (acall G T X M n) e op H = some r := by
  cases op <;> first
    | exact ⟨0, hx⟩
    | exact lim_some hx
    | (simp only [exe] at hx ⊢
       split at hx
       · exact lim_some hx
       · cases hx)

theorem runR_lim : ∀ (l : List AIns) {s : St} {r : AX × St}, runR (ecall G T X M) l s = some r → ∃ n, runR (acall G T X M n) l s = some r
  | [], s, r, hx => ⟨0, hx⟩
  | i :: l, s, r, hx => by
    simp only [runR] at hx ⊢
    split at hx
    · cases hx
    · exact runR_lim l hx
    · split at hx
      · cases hx
      · rename_i he
        obtain ⟨n, hn⟩ := exe_lim G T X M he
        obtain ⟨m, hm⟩ := runR_lim l hx
        refine ⟨max n m, ?_⟩
        rw [exe_mono (acall_monos G T X M (Nat.le_max_left n m)) hn]
        exact runR_mono (acall_monos G T X M (Nat.le_max_right n m)) l hm
      · rename_i he
        obtain ⟨n, hn⟩ := exe_lim G T X M he
        exact ⟨n, by rw [hn]; exact hx⟩

theorem stepD_lim {all : List DIns} {e0 : Env} {o : DIns} {j : Nat} {t t' : DSt} (hx : stepD (ecall G T X M) all e0 o j t = some t') : ∃ n, stepD (acall G T X M n) all e0 o j t = some t' := by
  unfold stepD at hx ⊢
  simp only at hx ⊢
  split at hx
  · cases hx
  · exact ⟨0, hx⟩
  · split at hx
    · rename_i hk
      simp only [if_pos hk]
      split at hx
      · rename_i he
        obtain ⟨n, hn⟩ := exe_lim G T X M he
        exact ⟨n, by rw [hn]; exact hx⟩
      · cases hx
    · rename_i hk0
      simp only [if_neg hk0]
      split at hx
      · rename_i hk1
        simp only [if_pos hk1]
        split at hx
        · rename_i he
          obtain ⟨n, hn⟩ := exe_lim G T X M he
          exact ⟨n, by rw [hn]; exact hx⟩
        · cases hx
      · rename_i hk1
        simp only [if_neg hk1]
        split at hx
        · rename_i he
          obtain ⟨n, hn⟩ := exe_lim G T X M he
          exact ⟨n, by rw [hn]; exact hx⟩
        · cases hx

theorem runD_lim {all : List DIns} {e0 : Env} : ∀ (l : List DIns) {j : Nat} {t t' : DSt}, runD (ecall G T X M) all e0 l j t = some t' → ∃ n, runD (acall G T X M n) all e0 l j t = some t'
  | [], j, t, t', hx => ⟨0, hx⟩
  | o :: l, j, t, t', hx => by
    simp only [runD] at hx ⊢
    split at hx
    · rename_i h1
      obtain ⟨n, hn⟩ := stepD_lim G T X M h1
      obtain ⟨m, hm⟩ := runD_lim l hx
      refine ⟨max n m, ?_⟩
      rw [stepD_mono (acall_monos G T X M (Nat.le_max_left n m)) hn]
      exact runD_mono (acall_monos G T X M (Nat.le_max_right n m)) l hm
    · cases hx

theorem runDr_lim {is : List DIns} {s : St} {r : AX × St} (hx : runDr (ecall G T X M) is s = some r) : ∃ n, runDr (acall G T X M n) is s = some r := by
  unfold runDr at hx ⊢
  split at hx
  · rename_i h1
    obtain ⟨n, hn⟩ := runD_lim G T X M is h1
    exact ⟨n, by rw [hn]; exact hx⟩
  · cases hx

theorem erun_lim : ∀ (code : ACode) {s : St} {r : AX × St}, erun (ecall G T X M) code s = some r → ∃ n, run (acall G T X M n) n code s = some r
  | .skip, s, r, hx => ⟨0, hx⟩
  | .exit _, s, r, hx => ⟨0, hx⟩
  | .ret, s, r, hx => ⟨0, hx⟩
  | .trim _, s, r, hx => ⟨0, hx⟩
  | .reg is, s, r, hx => runR_lim G T X M is hx
  | .regd is, s, r, hx => runDr_lim G T X M hx
  | .seq a b, s, r, hx => by
    simp only [erun] at hx
    split at hx
    · rename_i h1
      obtain ⟨n, hn⟩ := erun_lim a h1
      obtain ⟨m, hm⟩ := erun_lim b hx
      refine ⟨max n m, ?_⟩
      simp only [run]
      rw [run_mono (acall_monos G T X M (Nat.le_max_left n m)) (Nat.le_max_left n m) a hn]
      exact run_mono (acall_monos G T X M (Nat.le_max_right n m)) (Nat.le_max_right n m) b hm
    · rename_i h1
      obtain ⟨n, hn⟩ := erun_lim a hx
      refine ⟨n, ?_⟩
      simp only [run]
      rw [hn]
      split
      · rename_i h2; simp only [Option.some.injEq] at h2; subst h2; exact absurd hx (h1 _)
      · rfl
  | .cond z a b, s, r, hx => by
    simp only [erun] at hx
    split at hx
    · rename_i t ht
      cases t with
      | true => obtain ⟨n, hn⟩ := erun_lim a hx; exact ⟨n, by simp only [run, ht, if_true]; exact hn⟩
      | false => obtain ⟨n, hn⟩ := erun_lim b (by simpa using hx); exact ⟨n, by simp only [run, ht]; exact hn⟩
    · cases hx
  | .block id b, s, r, hx => by
    simp only [erun] at hx
    split at hx
    · rename_i h1
      obtain ⟨n, hn⟩ := erun_lim b h1
      exact ⟨n, by simp only [run]; rw [hn]; exact hx⟩
    · rename_i h1
      obtain ⟨n, hn⟩ := erun_lim b hx
      refine ⟨n, ?_⟩
      simp only [run]
      rw [hn]
      split
      · rename_i h2; simp only [Option.some.injEq] at h2; subst h2; exact absurd hx (h1 _ _)
      · rfl
  | .loop live b, s, r, hx => by
    simp only [erun] at hx
    obtain ⟨k, hk⟩ := lim_some hx
    have key : ∀ (k : Nat) {s : St} {r : AX × St}, iter (erun (ecall G T X M) b) live k s = some r → ∃ n, iter (run (acall G T X M n) n b) live n s = some r := by
      intro k
      induction k with
      | zero => intro s r h; cases h
      | succ k ih =>
        intro s r h
        simp only [iter] at h
        split at h
        · rename_i h1
          obtain ⟨n, hn⟩ := erun_lim b h1
          obtain ⟨m, hm⟩ := ih h
          refine ⟨max n m + 1, ?_⟩
          simp only [iter]
          rw [run_mono (acall_monos G T X M (n := n) (m := max n m + 1) (by omega)) (by omega) b hn]
          exact iter_mono (fun s r h2 => run_mono (acall_monos G T X M (n := m) (m := max n m + 1) (by omega)) (by omega) b h2) m (max n m) (Nat.le_max_right n m) hm
        · rename_i h1
          obtain ⟨n, hn⟩ := erun_lim b h
          refine ⟨n + 1, ?_⟩
          simp only [iter]
          rw [run_mono (acall_monos G T X M (Nat.le_succ n)) (Nat.le_succ n) b hn]
          split
          · rename_i h2; simp only [Option.some.injEq] at h2; subst h2; exact absurd h (h1 _)
          · rfl
    obtain ⟨n, hn⟩ := key k hk
    exact ⟨n, by simp only [run]; exact hn⟩

/-- What a function's code comes to, called by value. -/
noncomputable def evals (call : Call) (fn : AFun) (args : List AV) (H : AH) : Option (Out × AH) :=
  match views H args G with
  | none => none
  | some (as, bs, kp) => match erun call fn.code ⟨number as 0, ⟨bs ++ T, kp, kp⟩⟩ with
    | some (.nrm, s) | some (.ret, s) => match resAll s.e s.H fn.res with
      | some vs => match backs s.H kp H vs with
        | some (vs', H') => some (.ok (pack vs'), H')
        | none => none
      | none => none
    | _ => none

/-- What a function's code comes to. -/
noncomputable def evale (call : Call) (fn : AFun) (args : List AV) (H : AH) : Option (Out × AH) :=
  match erun call fn.code ⟨number args 0, H⟩ with
  | some (.nrm, s) | some (.ret, s) => match resAll s.e s.H fn.res with
    | some vs => some (.ok (pack vs), s.H)
    | none => none
  | some (.pan v, s) => some (.pan v, s.H)
  | _ => none

theorem ecall_view {f : FuncId} {fn : AFun} {args : List AV} {H : AH} {r : Out × AH} (hX : X f = none) (hM : M f = some fn) (hv : fn.view = true) (h : evals G T (ecall G T X M) fn args H = some r) : ecall G T X M f args H = some r := by
  unfold evals at h
  split at h
  · cases h
  · rename_i as bs kp hvw
    split at h
    · rename_i s hs
      obtain ⟨n, hn⟩ := erun_lim G T X M fn.code hs
      refine ecall_of G T X M (n := n + 1) ?_
      rw [acall]
      simp only [hX, hM, hv, if_true, hvw, hn]
      exact h
    · rename_i s hs
      obtain ⟨n, hn⟩ := erun_lim G T X M fn.code hs
      refine ecall_of G T X M (n := n + 1) ?_
      rw [acall]
      simp only [hX, hM, hv, if_true, hvw, hn]
      exact h
    · cases h

theorem ecall_body {f : FuncId} {fn : AFun} {args : List AV} {H : AH} {r : Out × AH} (hX : X f = none) (hM : M f = some fn) (hv : fn.view = false) (h : evale (ecall G T X M) fn args H = some r) : ecall G T X M f args H = some r := by
  unfold evale at h
  split at h
  · rename_i s hs
    obtain ⟨n, hn⟩ := erun_lim G T X M fn.code hs
    refine ecall_of G T X M (n := n + 1) ?_
    rw [acall]
    simp only [hX, hM, hv, hn]
    exact h
  · rename_i s hs
    obtain ⟨n, hn⟩ := erun_lim G T X M fn.code hs
    refine ecall_of G T X M (n := n + 1) ?_
    rw [acall]
    simp only [hX, hM, hv, hn]
    exact h
  · rename_i v s hs
    obtain ⟨n, hn⟩ := erun_lim G T X M fn.code hs
    refine ecall_of G T X M (n := n + 1) ?_
    rw [acall]
    simp only [hX, hM, hv, hn]
    exact h
  · cases h

theorem ecall_ext {f : FuncId} {g : List AV → AH → Option (Out × AH)} (hX : X f = some g) (args : List AV) (H : AH) {r : Out × AH} (h : g args H = some r) : ecall G T X M f args H = some r := by
  refine ecall_of G T X M (n := 1) ?_
  rw [acall]
  simp only [hX]
  exact h

end

section
open Go.RowKit
variable {P : Program} {B : Base}

theorem ecall_ok {X : Ext} {M : Tab} (hX : ExtOk P B X) (hM : TabOk P M) (hmix : P.follows .mixedOrders = true) (hG : B.G = P.globals.size) : CallOk P B (ecall B.G B.T X M) := fun f args H out H' φ vs w h => by
  obtain ⟨n, hn⟩ := ecall_some B.G B.T X M h
  exact acall_ok hX hM hmix hG n f args H out H' φ vs w hn
end
end Go.Am
