/-
Every operation of the model that the compiler takes does what the abstract machine's does. Conditions: the heap stands to the world, the temporaries to the values, and calls do what the machine's calls do.
-/
import Derived.Test.YtjpppajbhpbkiaaDoorAm11
set_option linter.unusedSimpArgs false
set_option linter.unusedVariables false
namespace Go.Am
open Go.RowKit

section
variable {P : Program} {B : Base} {φ : Emb} {H H' : AH} {w : World} {a : Act} {e : Env} {o : Oper} {call : Call} {out : Out}

theorem okM_inv {v : Option AV} (h : okM H v = some (out, H')) : ∃ u, v = some u ∧ out = .ok u ∧ H' = H := by
  cases v with
  | none => simp [okM] at h
  | some u => simp [okM] at h; exact ⟨u, rfl, h.1.symm, h.2.symm⟩

theorem ok1_inv {v : AV} (h : ok1 H v = some (out, H')) : out = .ok v ∧ H' = H := by
  simp [ok1] at h; exact ⟨h.1.symm, h.2.symm⟩

theorem exe_call (hcall : CallOk P B call) (hr : Rel B φ H w) (hg : GlobR P φ) (he : EnvR φ e a.tmps) (hf : Free φ H.next H'.next) {c : Go.Call} {op : AOp} (ho : o.op = .call c) (hop : ccall P c = some op) (hx : exe call e op H = some (out, H')) :
    Does P (Post B φ H w out H') ((execOp a.eval o).run P w) := by
  unfold ccall at hop
  split at hop
  · rename_i f hcal
    split at hop <;> simp at hop
    subst hop
    rename_i fn as hfn has
    have hargs := ofOps_ok hg he has
    simp only [exe] at hx
    have := hcall f _ H out H' φ _ w hx hr hargs hg hf
    have hex : execOp a.eval o = callFunc f (c.args.toList.map a.eval).toArray := by
      have h1 : (c.args.toList.map a.eval).toArray = c.args.map a.eval := by apply Array.ext'; simp
      rw [h1]
      simp [execOp, ho, resolve, hcal, Act.eval, Deferred.ofValue, invoke]
    rw [hex]; exact this
  · rename_i t hcal
    simp only [Option.map_eq_some_iff] at hop
    obtain ⟨as, has, rfl⟩ := hop
    have hargs := ofOps_ok hg he has
    simp only [exe, Arg.val] at hx
    have ht := he t
    split at hx
    · rename_i f cs hft
      rw [hft] at ht
      obtain ⟨ds, hds, hv⟩ := ht.func_inv
      have := hcall f _ H out H' φ _ w hx hr (hargs.append hds) hg hf
      have hex : execOp a.eval o = callFunc f (c.args.toList.map a.eval ++ ds.toList).toArray := by
        have h1 : (c.args.toList.map a.eval ++ ds.toList).toArray = c.args.map a.eval ++ ds := by apply Array.ext'; simp
        rw [h1]
        have h2 : a.eval (.tmp t) = .func (.func f) #[] ds := hv
        simp [execOp, ho, resolve, hcal, h2, Deferred.ofValue, invoke]
      rw [hex]; exact this
    · simp at hx
  · rename_i b hcal
    obtain ⟨ck, hex⟩ := exec_builtin (ρ := a.eval) ho hcal
    have two : ∀ {t u : TypeId} {x y : Operand} {f : Array TypeId → TypeId → Array Value → Sem Value}, c.argTypes.toList = [t, u] → c.args.toList = [x, y] → (∀ ts ty cs args, builtin b ts ty cs args = (do pure (.value (← f ts ty args)))) →
        c.argTypes = #[t, u] ∧ c.args = #[x, y] ∧ execOp a.eval o = (do pure (.value (← f #[t, u] o.type #[a.eval x, a.eval y]))) := by
      intro t u x y f h1 h2 h3
      have hts' : c.argTypes = #[t, u] := by apply Array.ext'; simpa using h1
      have hxs' : c.args = #[x, y] := by apply Array.ext'; simpa using h2
      exact ⟨hts', hxs', by rw [hex, h3, hts', hxs', show (#[x, y] : Array Operand).map a.eval = #[a.eval x, a.eval y] by simp]⟩
    have one : ∀ {x : Operand} {f : Array TypeId → TypeId → Array Value → Sem Value}, c.args.toList = [x] → (∀ ts ty cs args, builtin b ts ty cs args = (do pure (.value (← f ts ty args)))) →
        c.args = #[x] ∧ execOp a.eval o = (do pure (.value (← f c.argTypes o.type #[a.eval x]))) := by
      intro x f h2 h3
      have hxs' : c.args = #[x] := by apply Array.ext'; simpa using h2
      exact ⟨hxs', by rw [hex, h3, hxs', show (#[x] : Array Operand).map a.eval = #[a.eval x] by simp]⟩
    unfold cbi at hop
    split at hop
    · -- len
      rename_i t x hts hxs
      obtain ⟨_, hex'⟩ := one (f := Builtin.len_) hxs (fun _ _ _ _ => rfl)
      have hts' : c.argTypes = #[t] := by apply Array.ext'; simpa using hts
      rw [hts'] at hex'
      split at hop
      · rename_i y hu hy
        simp at hop; subst hop
        have hv := ofOp_ok hg he hy
        simp only [exe] at hx
        split at hx
        · rename_i s hl
          obtain ⟨rfl, rfl⟩ := ok1_inv hx
          rw [hl] at hv
          refine does_same hr hex' (v' := .int .i64 s.length) ?_ (VR.int _ _)
          have := size_str s
          rw [hv.str_inv]; simp [Builtin.len_, run_underlying hu, goInt, this]
        · simp at hx
      · rename_i el y hu hy
        simp at hop; subst hop
        have hv := ofOp_ok hg he hy
        simp only [exe] at hx
        split at hx
        · rename_i hl
          obtain ⟨rfl, rfl⟩ := ok1_inv hx
          rw [hl] at hv
          refine does_same hr hex' (v' := .int .i64 0) ?_ (VR.int _ _)
          rw [hv.nils_inv]; simp [Builtin.len_, run_underlying hu, goInt]
        · rename_i hl
          obtain ⟨rfl, rfl⟩ := ok1_inv hx
          rw [hl] at hv
          refine does_same hr hex' (v' := .int .i64 0) ?_ (VR.int _ _)
          obtain ⟨ad, cc, e1⟩ := hv.esl_inv
          rw [e1]; simp [Builtin.len_, run_underlying hu, goInt]
        · rename_i i off z n cp hl
          obtain ⟨rfl, rfl⟩ := ok1_inv hx
          rw [hl] at hv
          refine does_same hr hex' (v' := .int .i64 n) ?_ (VR.int _ _)
          rcases hv.sl_inv with ⟨_, _, _, _, _, _, _, _, e5⟩ | ⟨rfl, _, _, e5⟩ <;> rw [e5] <;> simp [Builtin.len_, run_underlying hu, goInt]
        · simp at hx
      · rename_i n el y hu hy
        simp at hop; subst hop
        obtain ⟨rfl, rfl⟩ := ok1_inv hx
        refine does_same hr hex' (v' := .int .i64 n) ?_ (VR.int _ _)
        simp only [Builtin.len_]
        simp [run_underlying hu, goInt]
      · rename_i arr y hu hy
        split at hop <;> simp at hop
        rename_i n el hu2
        subst hop
        obtain ⟨rfl, rfl⟩ := ok1_inv hx
        refine does_same hr hex' (v' := .int .i64 n) ?_ (VR.int _ _)
        simp only [Builtin.len_]
        simp [run_underlying hu, run_underlying hu2, goInt]
      · simp at hop
    · -- append
      rename_i t u x y hts hxs
      obtain ⟨hts', hxs', _⟩ := two (f := Builtin.append_) hts hxs (fun _ _ _ _ => rfl)
      split at hop
      · rename_i el x' y' hu hx' hy'
        have fin : ∀ {ud z by_ zl}, P.underlying u = some ud → (ud = .string ∨ ∃ e, ud = .slice e) → szOf P el = some z → byOf P el = some by_ → zOf P el = some zl → zl.length = z → op = .app el z by_ x' y' → Does P (Post B φ H w out H') ((execOp a.eval o).run P w) := by
          intro ud z by_ zl h1 h2 h3 h4 h5 h6 h7
          subst h7
          simp only [exe] at hx
          split at hx
          · simp at hx
          · rename_i new hnew
            split at hx
            · simp at hx
            · rename_i hsol
              exact op_app ho hcal hts' hxs' hu h1 h2 h3 h4 h5 h6 (ofOp_ok hg he hx') (ofOp_ok hg he hy') hnew (by simpa using hsol) hr hf hx
        split at hop
        · rename_i z by_ zl h1 h2 h3 h4
          split at hop <;> simp at hop
          rename_i h6
          exact fin h1 (.inr ⟨_, rfl⟩) h2 h3 h4 h6 hop.symm
        · rename_i z by_ zl h1 h2 h3 h4
          split at hop <;> simp at hop
          rename_i h6
          exact fin h1 (.inl rfl) h2 h3 h4 h6 hop.symm
        · simp at hop
      · simp at hop
    · -- copy
      rename_i t u x y hts hxs
      obtain ⟨hts', hxs', _⟩ := two (f := Builtin.copy_) hts hxs (fun _ _ _ _ => rfl)
      split at hop
      · rename_i el x' y' hu hx' hy'
        simp only [Option.map_eq_some_iff] at hop
        obtain ⟨z, hsz, rfl⟩ := hop
        simp only [exe] at hx
        split at hx
        · rename_i i off z' n cp m cs h1 h2 h3
          split at hx
          · rename_i hc
            obtain ⟨rfl, hlen⟩ := hc
            simp only [Option.map_eq_some_iff] at hx
            obtain ⟨H2, hst, hx⟩ := hx
            simp only [Prod.mk.injEq] at hx
            obtain ⟨rfl, rfl⟩ := hx
            have hvx := ofOp_ok hg he hx'
            rw [h1] at hvx
            exact op_cpy ho hcal hts' hxs' hu hsz hvx (ofOp_ok hg he hy') h2 h3 hr hst
          · simp at hx
        · rename_i m cs h1 h2 h3
          obtain ⟨rfl, rfl⟩ := ok1_inv hx
          have hvx := ofOp_ok hg he hx'
          rw [h1] at hvx
          exact op_cpy_nil ho hcal hts' hxs' hu hsz hvx (ofOp_ok hg he hy') h2 h3 hr
        · simp at hx
      · simp at hop
    · -- min
      rename_i t u x y hts hxs
      obtain ⟨hts', hxs', hex'⟩ := two (f := Builtin.min_) hts hxs (fun _ _ _ _ => rfl)
      split at hop <;> simp at hop
      subst hop
      rename_i x' y' hx' hy'
      simp only [exe] at hx
      split at hx
      · rename_i k p k' q h1 h2
        split at hx
        · rename_i hk
          subst hk
          obtain ⟨rfl, rfl⟩ := ok1_inv hx
          have hvx := ofOp_ok hg he hx'
          have hvy := ofOp_ok hg he hy'
          rw [h1] at hvx
          rw [h2] at hvy
          refine does_same hr hex' ?_ (VR.int _ _)
          rw [hvx.int_inv, hvy.int_inv]
          simp [Builtin.min_, Builtin.min2]
        · simp at hx
      · simp at hx
    · -- max
      rename_i t u x y hts hxs
      obtain ⟨hts', hxs', hex'⟩ := two (f := Builtin.max_) hts hxs (fun _ _ _ _ => rfl)
      split at hop <;> simp at hop
      subst hop
      rename_i x' y' hx' hy'
      simp only [exe] at hx
      split at hx
      · rename_i k p k' q h1 h2
        split at hx
        · rename_i hk
          subst hk
          obtain ⟨rfl, rfl⟩ := ok1_inv hx
          have hvx := ofOp_ok hg he hx'
          have hvy := ofOp_ok hg he hy'
          rw [h1] at hvx
          rw [h2] at hvy
          refine does_same hr hex' ?_ (VR.int _ _)
          rw [hvx.int_inv, hvy.int_inv]
          simp [Builtin.max_, Builtin.max2]
        · simp at hx
      · simp at hx
    · -- panic
      rename_i x hxs
      have hxs' : c.args = #[x] := by apply Array.ext'; simpa using hxs
      simp only [Option.map_eq_some_iff] at hop
      obtain ⟨x', hx', rfl⟩ := hop
      simp only [exe] at hx
      split at hx
      · rename_i t u h1
        simp at hx
        obtain ⟨rfl, rfl⟩ := hx
        have hvx := ofOp_ok hg he hx'
        rw [h1] at hvx
        obtain ⟨v', hv', e1⟩ := hvx.iface_inv
        have hex' : execOp a.eval o = (do pure (.value (← Instr.panic (a.eval x)))) := by
          rw [hex, hxs', show (#[x] : Array Operand).map a.eval = #[a.eval x] by simp]; rfl
        rw [hex', e1]
        simp [Instr.panic, Does]
        exact ⟨φ, Step.refl hr, _, rfl, by rw [← e1]; exact hvx⟩
      · simp at hx
    · -- cap
      rename_i t x hts hxs
      obtain ⟨_, hex'⟩ := one (f := Builtin.cap_) hxs (fun _ _ _ _ => rfl)
      have hts' : c.argTypes = #[t] := by apply Array.ext'; simpa using hts
      rw [hts'] at hex'
      split at hop
      · rename_i el hu
        simp only [Option.map_eq_some_iff] at hop
        obtain ⟨x', hx', rfl⟩ := hop
        have hv := ofOp_ok hg he hx'
        simp only [exe] at hx
        split at hx
        · rename_i hl
          obtain ⟨rfl, rfl⟩ := ok1_inv hx
          rw [hl] at hv
          refine does_same hr hex' (v' := .int .i64 0) ?_ (VR.int _ _)
          rw [hv.nils_inv]; simp [Builtin.cap_, run_underlying hu, goInt]
        · rename_i i off z n cp hl
          obtain ⟨rfl, rfl⟩ := ok1_inv hx
          rw [hl] at hv
          refine does_same hr hex' (v' := .int .i64 cp) ?_ (VR.int _ _)
          rcases hv.sl_inv with ⟨_, _, _, cc, _, _, _, e4, e5⟩ | ⟨rfl, e4, _, e5⟩
          · rw [e5, e4 cp rfl]; simp [Builtin.cap_, run_underlying hu, goInt]
          · rw [e5, ← e4 cp rfl]; simp [Builtin.cap_, run_underlying hu, goInt]
        · simp at hx
      · simp at hop
    · -- unsafeSliceData
      rename_i x hxs
      have hxs' : c.args = #[x] := by apply Array.ext'; simpa using hxs
      simp only [Option.map_eq_some_iff] at hop
      obtain ⟨x', hx', rfl⟩ := hop
      have hv := ofOp_ok hg he hx'
      simp only [exe] at hx
      split at hx
      · rename_i hl
        obtain ⟨rfl, rfl⟩ := ok1_inv hx
        rw [hl] at hv
        exact op_usd_nil ho hcal hxs' hv hr
      · rename_i i off z n cp hl
        split at hx
        · rename_i hn
          obtain ⟨rfl, rfl⟩ := ok1_inv hx
          rw [hl] at hv
          exact op_usd ho hcal hxs' hv hn hr
        · simp at hx
      · simp at hx
    · -- unsafeString
      rename_i t u x y hts hxs
      obtain ⟨hts', hxs', _⟩ := two (f := Builtin.unsafeString_) hts hxs (fun _ _ _ _ => rfl)
      split at hop
      · rename_i el x' y' hu hx' hy'
        split at hop <;> simp at hop
        rename_i hsz
        subst hop
        have hvx := ofOp_ok hg he hx'
        have hvy := ofOp_ok hg he hy'
        simp only [exe] at hx
        split at hx
        · rename_i m h1 h2
          split at hx
          · rename_i hm
            subst hm
            obtain ⟨rfl, rfl⟩ := ok1_inv hx
            rw [h1] at hvx
            rw [h2] at hvy
            exact op_ustr_nil ho hcal hts' hxs' hvx hvy rfl hr
          · simp at hx
        · rename_i i off m h1 h2
          split at hx
          · rename_i b hb
            split at hx
            · rename_i hcond
              obtain ⟨g1, g2, g3, rfl, g4, g5, g6⟩ := hcond
              split at hx
              · rename_i cs hcs
                rw [h1] at hvx
                rw [h2] at hvy
                cases hl : toBytes cs with
                | none => simp [hl, okM] at hx
                | some l =>
                  simp [hl, okM] at hx
                  obtain ⟨rfl, rfl⟩ := hx
                  exact op_ustr ho hcal hts' hxs' hu hsz hvx hvy rfl hb g1 g2 g3 g4 g5 g6 hcs hl hr
              · simp at hx
            · simp at hx
          · simp at hx
        · simp at hx
      · simp at hop
    · simp at hop
  · simp at hop

end
end Go.Am
