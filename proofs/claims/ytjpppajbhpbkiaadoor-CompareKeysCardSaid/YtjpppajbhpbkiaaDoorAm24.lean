/-
The abstract machine's calls are the model's calls. Conditions: the machine's table was compiled from the program's functions; its rows for functions without a text do what those do.
-/
import Derived.Test.YtjpppajbhpbkiaaDoorAm23
set_option linter.unusedSimpArgs false
set_option linter.unusedVariables false
namespace Go.Am
open Go.RowKit

theorem lk_number : ∀ (l : List AV) (k n : Nat), lk (number l k) n = if k ≤ n then l[n - k]? else none
  | [], k, n => by simp [number, lk]
  | v :: l, k, n => by
    simp only [number, lk]
    by_cases h : k = n
    · subst h; simp
    · rw [if_neg h, lk_number l (k + 1) n]
      by_cases h1 : k + 1 ≤ n
      · rw [if_pos h1, if_pos (by omega)]
        have : n - k = (n - (k + 1)) + 1 := by omega
        rw [this, List.getElem?_cons_succ]
      · rw [if_neg h1, if_neg (by omega)]

theorem envR_args {φ : Emb} {args : List AV} {vs : List Value} (h : VRs φ args vs) (m : Nat) : EnvR φ (number args 0) (vs.toArray ++ Array.replicate m Go.undef) := by
  intro n
  unfold Env.at
  rw [lk_number]
  simp only [Nat.zero_le, if_true, Nat.sub_zero]
  cases hx : args[n]? with
  | none => exact VR.undef _
  | some a =>
    obtain ⟨v, h1, h2⟩ := h.get hx
    have hlt : n < vs.length := by
      rcases Nat.lt_or_ge n vs.length with h' | h'
      · exact h'
      · rw [List.getElem?_eq_none h'] at h1; cases h1
    have : (vs.toArray ++ Array.replicate m Go.undef).getD n Go.undef = v := by
      rw [Array.getD_eq_getD_getElem?, Array.getElem?_append_left (by simpa using hlt)]
      simp [h1]
    rw [this]
    exact h2

section
variable {P : Program} {B : Base}

def resRun (t : Array Value) : ResultVar → Sem Value
  | .tmp t' => pure (t.getD t' Go.undef)
  | .cell a ty => do loadVar ty (← asAddr (t.getD a Go.undef))

theorem results_eq (fn : Func) (t : Array Value) : results fn t = (do let vs ← fn.results.mapM (resRun t); pure (if h : vs.size = 1 then vs[0] else .tuple vs)) := by
  unfold results
  have : (fun r => match r with | .tmp t' => pure (t.getD t' Go.undef) | .cell a ty => do loadVar ty (← asAddr (t.getD a Go.undef)) : ResultVar → Sem Value) = resRun t := by
    funext r
    cases r <;> rfl
  rw [← this]
  rfl

theorem resOf_ok {φ : Emb} {H : AH} {w : World} {e : Env} {t : Array Value} (hr : Rel B φ H w) (he : EnvR φ e t) {r : ResultVar} {q : ARes} (hq : cres P r = some q) {v : AV} (hv : resOf e H q = some v) :
    ∃ v', (resRun t r).run P w = .ok v' w ∧ VR φ v v' := by
  cases r with
  | tmp t' =>
    simp [cres] at hq; subst hq
    simp [resOf] at hv; subst hv
    exact ⟨_, by simp [resRun], he t'⟩
  | cell a ty =>
    simp only [cres] at hq
    split at hq
    · rename_i hp
      simp at hq; subst hq
      simp only [resOf] at hv
      split at hv
      · rename_i i o hat
        split at hv
        · rename_i b hb
          have hx := he a
          rw [hat] at hx
          obtain ⟨p, s, m, e1, e2⟩ := hx.ptr_inv
          obtain ⟨p', s', m', e', br⟩ := hr.blk i b hb
          rw [e1] at e'; simp at e'; obtain ⟨rfl, rfl, rfl⟩ := e'
          obtain ⟨v', h1, h2⟩ := br.cell o v hv
          refine ⟨v', ?_, h2⟩
          simp [resRun, e2, asAddr, run_loadVar1 hp h1]
        · cases hv
      · cases hv
    · rename_i n hp
      simp at hq; subst hq
      simp only [resOf] at hv
      split at hv
      · rename_i i o hat
        simp only [Option.map_eq_some_iff] at hv
        obtain ⟨cs, hc, rfl⟩ := hv
        have hx := he a
        rw [hat] at hx
        obtain ⟨p, s, m, e1, e2⟩ := hx.ptr_inv
        obtain ⟨hl, ds, h1, h2⟩ := cellsAt_ok hr hc e1
        have hdl := h1.length
        refine ⟨.agg ds.toArray, ?_, VR.agg (by simpa using h1)⟩
        simp [resRun, e2, asAddr, run_loadVarn (P := P) (t := ty) (w := w) (p := p) (q := s + o) ds (by rw [hp]; simp; omega) h2]
      · cases hv
    · cases hq

theorem resAll_ok {φ : Emb} {H : AH} {w : World} {e : Env} {t : Array Value} (hr : Rel B φ H w) (he : EnvR φ e t) : ∀ {rs : List ResultVar} {qs : List ARes} {vs : List AV}, cress P rs = some qs → resAll e H qs = some vs →
    ∃ vs', (rs.mapM (resRun t)).run P w = .ok vs' w ∧ VRs φ vs vs'
  | [], qs, vs, hq, hv => by
    simp [cress] at hq; subst hq
    simp [resAll] at hv; subst hv
    exact ⟨[], by simp, .nil⟩
  | r :: rs, qs, vs, hq, hv => by
    simp only [cress] at hq
    split at hq
    · rename_i q qs' h1 h2
      simp at hq; subst hq
      simp only [resAll] at hv
      split at hv
      · rename_i v vs1 h3 h4
        simp at hv; subst hv
        obtain ⟨v', a1, a2⟩ := resOf_ok hr he h1 h3
        obtain ⟨vs', b1, b2⟩ := resAll_ok hr he h2 h4
        exact ⟨v' :: vs', by rw [List.mapM_cons, Sem.run_bind, a1, Result.andThen_ok, Sem.run_bind, b1, Result.andThen_ok, Sem.run_pure], .cons a2 b2⟩
      · cases hv
    · cases hq

def packV (us : List Value) : Value := if h : us.toArray.size = 1 then us.toArray[0] else .tuple us.toArray

theorem pack_ok {φ : Emb} {vs : List AV} {us : List Value} (h : VRs φ vs us) : VR φ (pack vs) (packV us) := by
  have hl := h.length
  unfold packV
  match vs, us, h, hl with
  | [], [], h, _ => exact VR.tup (ds := #[]) .nil
  | [v], [v'], h, _ => exact h
  | a :: b :: l, x :: y :: l', h, _ =>
    rw [dif_neg (by simp)]
    exact VR.tup (by simpa using h)

theorem results_ok {φ : Emb} {H : AH} {w : World} {e : Env} {t : Array Value} (hr : Rel B φ H w) (he : EnvR φ e t) {fn : Func} {qs : List ARes} {vs : List AV} (hq : cress P fn.results.toList = some qs) (hv : resAll e H qs = some vs) :
    ∃ us, (results fn t).run P w = .ok (packV us) w ∧ VRs φ vs us := by
  obtain ⟨vs', h1, h2⟩ := resAll_ok hr he hq hv
  have hm : (fn.results.mapM (resRun t)).run P w = .ok vs'.toArray w := by
    rw [Array.mapM_eq_mapM_toList]
    simp only [Sem.run_map, h1, Result.andThen_ok]
  refine ⟨vs', ?_, h2⟩
  rw [results_eq, Sem.run_bind, hm]
  simp only [Result.andThen_ok, Sem.run_pure]
  rfl

def TabOk (P : Program) (M : Tab) : Prop := ∀ f fn, M f = some fn → ∃ F l v, P.funcs[f]? = some F ∧ cfunL P F l v = some fn

structure ExtOk (P : Program) (B : Base) (X : Ext) : Prop where
  next : ∀ f g args H out H', X f = some g → g args H = some (out, H') → H.next ≤ H'.next
  does : ∀ (f : FuncId) (g : List AV → AH → Option (Out × AH)) (args : List AV) (H : AH) (out : Out) (H' : AH) (φ : Emb) (vs : List Value) (w : World), X f = some g → g args H = some (out, H') → Rel B φ H w → VRs φ args vs → GlobR P φ → Free φ H.next H'.next →
    Does P (Post B φ H w out H') ((callFunc f vs.toArray).run P w)

end
end Go.Am
