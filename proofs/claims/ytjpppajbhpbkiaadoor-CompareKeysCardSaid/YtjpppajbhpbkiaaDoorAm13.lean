/-
Every operation of the model that the compiler takes does what the abstract machine's does. Conditions: the heap stands to the world, the temporaries to the values, and calls do what the machine's calls do.
-/
import Derived.Test.YtjpppajbhpbkiaaDoorAm12
set_option linter.unusedSimpArgs false
set_option linter.unusedVariables false
namespace Go.Am
open Go.RowKit

section
variable {P : Program} {B : Base} {φ : Emb} {H H' : AH} {w : World} {a : Act} {e : Env} {o : Oper} {call : Call} {out : Out}

theorem exe_ok (hcall : CallOk P B call) (hr : Rel B φ H w) (hg : GlobR P φ) (he : EnvR φ e a.tmps) (hf : Free φ H.next H'.next) {op : AOp} (hop : cop P o = some op) (hx : exe call e op H = some (out, H')) :
    Does P (Post B φ H w out H') ((execOp a.eval o).run P w) := by
  have val : ∀ {x : Operand} {y : Arg}, ofOp P x = some y → VR φ (y.val e) (a.eval x) := fun h => ofOp_ok hg he h
  unfold cop at hop
  split at hop
  · -- move
    rename_i x ho
    simp only [Option.map_eq_some_iff] at hop
    obtain ⟨y, hy, rfl⟩ := hop
    obtain ⟨rfl, rfl⟩ := ok1_inv hx
    simp only [execOp, ho, Sem.run_pure, Does]
    exact Post.ok (Step.refl hr) (val hy)
  · -- assign
    rename_i x ho
    simp only [Option.map_eq_some_iff] at hop
    obtain ⟨y, hy, rfl⟩ := hop
    obtain ⟨rfl, rfl⟩ := ok1_inv hx
    simp only [execOp, ho, Sem.run_pure, Does]
    exact Post.ok (Step.refl hr) (val hy)
  · -- pick
    rename_i c x y ho
    split at hop <;> simp at hop
    subst hop
    rename_i c' x' y' hc hx' hy'
    simp only [exe] at hx
    split at hx
    · rename_i t ht
      obtain ⟨rfl, rfl⟩ := ok1_inv hx
      have hcv := val hc
      rw [ht] at hcv
      simp only [execOp, ho, hcv.bool_inv, asBool, Sem.run_bind, Sem.run_pure, Result.andThen_ok, Does]
      refine Post.ok (Step.refl hr) ?_
      cases t
      · exact val hy'
      · exact val hx'
    · simp at hx
  · -- alloc
    rename_i t ho
    simp only [Option.map_eq_some_iff] at hop
    obtain ⟨z, hz, rfl⟩ := hop
    obtain ⟨rfl, rfl⟩ := ok1_inv hx
    exact op_alloc ho hz hr (free_next hf rfl)
  · -- box
    rename_i t x ho
    simp only [Option.map_eq_some_iff] at hop
    obtain ⟨y, hy, rfl⟩ := hop
    simp only [exe] at hx
    split at hx
    · rename_i cs hc
      obtain ⟨rfl, rfl⟩ := ok1_inv hx
      exact op_box ho (val hy) hc hr (free_next hf rfl)
    · simp at hx
  · -- build
    rename_i t parts ho
    split at hop
    · rename_i z fs hz hu
      split at hop
      · rename_i hsz
        simp only [Option.map_eq_some_iff] at hop
        obtain ⟨l, hl, rfl⟩ := hop
        obtain ⟨u, h1, rfl, rfl⟩ := okM_inv hx
        simp only [Option.map_eq_some_iff] at h1
        obtain ⟨cs, h2, rfl⟩ := h1
        exact op_bld_st ho hz hu hsz hl h2 hg he hr
      · simp at hop
    · rename_i z k el hz hu
      split at hop
      · rename_i n hsz
        simp only [Option.map_eq_some_iff] at hop
        obtain ⟨l, hl, rfl⟩ := hop
        obtain ⟨u, h1, rfl, rfl⟩ := okM_inv hx
        simp only [Option.map_eq_some_iff] at h1
        obtain ⟨cs, h2, rfl⟩ := h1
        exact op_bld_arr ho hz hu hsz hl h2 hg he hr
      · simp at hop
    · simp at hop
  · -- buildSlice
    rename_i t len parts ho
    split at hop
    · rename_i el hu
      split at hop
      · rename_i n z hsz hz
        split at hop
        · rename_i hc
          simp only [Option.map_eq_some_iff] at hop
          obtain ⟨l, hl, rfl⟩ := hop
          simp only [exe] at hx
          split at hx
          · rename_i cs h2
            obtain ⟨rfl, rfl⟩ := ok1_inv hx
            exact op_bsl ho hu hsz hz hc.1 hc.2 hl h2 hg he hr (free_next hf rfl)
          · simp at hx
        · simp at hop
      · simp at hop
    · simp at hop
  · -- load
    rename_i t x ho
    split at hop
    · rename_i y hp hy
      simp at hop; subst hop
      simp only [exe] at hx
      split at hx
      · rename_i i k hik
        split at hx
        · rename_i b hb
          obtain ⟨u, h1, rfl, rfl⟩ := okM_inv hx
          have hv := val hy
          rw [hik] at hv
          exact op_ld1 ho hp hv hb h1 hr
        · simp at hx
      · simp at hx
    · rename_i n y hp hy
      simp at hop; subst hop
      simp only [exe] at hx
      split at hx
      · rename_i i k hik
        obtain ⟨u, h1, rfl, rfl⟩ := okM_inv hx
        simp only [Option.map_eq_some_iff] at h1
        obtain ⟨cs, h2, rfl⟩ := h1
        have hv := val hy
        rw [hik] at hv
        exact op_ldn ho hp hv h2 hr
      · simp at hx
    · simp at hop
  · -- store
    rename_i t x y ho
    split at hop
    · rename_i n x' y' hsz hx' hy'
      simp at hop; subst hop
      simp only [exe] at hx
      split at hx
      · rename_i i k cs h1 h2
        split at hx
        · rename_i hl
          simp only [Option.map_eq_some_iff, Prod.mk.injEq] at hx
          obtain ⟨H2, hst, rfl, rfl⟩ := hx
          have hv := val hx'
          rw [h1] at hv
          exact op_st ho hsz hv (val hy') h2 hl hst hr
        · simp at hx
      · simp at hx
    · simp at hop
  · -- nilCheck
    rename_i x ho
    simp only [Option.map_eq_some_iff] at hop
    obtain ⟨y, hy, rfl⟩ := hop
    simp only [exe] at hx
    split at hx
    · rename_i i k h1
      obtain ⟨rfl, rfl⟩ := ok1_inv hx
      have hv := val hy
      rw [h1] at hv
      obtain ⟨p, s, m, e1, e2⟩ := hv.ptr_inv
      simp only [execOp, ho, e2, Sem.run_pure, Does]
      exact Post.ok (Step.refl hr) (VR.ptr e1)
    · simp at hx
  · -- binOp
    rename_i bop t x y yt ho
    split at hop
    · rename_i x' y' hx' hy'
      have bin : op = .bin bop x' y' → Does P (Post B φ H w out H') ((execOp a.eval o).run P w) := by
        intro h; subst h
        obtain ⟨u, h1, rfl, rfl⟩ := okM_inv hx
        obtain ⟨r', h2, h3⟩ := abin_ok (P := P) (w := w) (t := t) (x := x) (y := y) h1 (val hx') (val hy')
        exact does_same hr (by simp only [execOp, ho]) h2 h3
      split at hop
      · rename_i heq
        split at hop
        · simp at hop; exact bin hop.symm
        · simp at hop; exact bin hop.symm
        · rename_i d hd1 hd2 hd
          simp at hop; subst hop
          obtain ⟨u, h1, rfl, rfl⟩ := okM_inv hx
          obtain ⟨r', h2, h3⟩ := aeqv_ok (P := P) (w := w) (x := x) (y := y) heq hd ⟨fun h => hd1 h, fun h => hd2 h⟩ h1 (val hx') (val hy')
          exact does_same hr (by simp only [execOp, ho]) h2 h3
        · simp at hop
      · simp at hop; exact bin hop.symm
    · simp at hop
  · -- unOp
    rename_i uop t x ho
    simp only [Option.map_eq_some_iff] at hop
    obtain ⟨y, hy, rfl⟩ := hop
    obtain ⟨u, h1, rfl, rfl⟩ := okM_inv hx
    obtain ⟨r', h2, h3⟩ := aun_ok (P := P) (w := w) h1 (val hy)
    exact does_same hr (by simp only [execOp, ho]) h2 h3
  · -- convert
    rename_i s d x ho
    split at hop
    · rename_i k0 k y hs hd hy
      simp at hop; subst hop
      simp only [exe] at hx
      split at hx
      · rename_i k' n h1
        obtain ⟨rfl, rfl⟩ := ok1_inv hx
        have hv := val hy
        rw [h1] at hv
        refine does_same hr (s := convert s d (a.eval x)) (by simp only [execOp, ho]) ?_ (VR.int _ _)
        rw [hv.int_inv]
        simp [convert, run_underlying hs, run_underlying hd, Conv.intToInt]
      · simp at hx
    · rename_i y hs hd hy
      simp at hop; subst hop
      simp only [exe] at hx
      split at hx
      · rename_i l h1
        obtain ⟨rfl, rfl⟩ := ok1_inv hx
        have hv := val hy
        rw [h1] at hv
        refine does_same hr (s := convert s d (a.eval x)) (by simp only [execOp, ho]) (v' := a.eval x) ?_ hv
        rw [hv.str_inv]
        simp [convert, run_underlying hs, run_underlying hd]
      · simp at hx
    · rename_i el y hs hd hy
      split at hop <;> simp at hop
      rename_i hel
      subst hop
      simp only [exe] at hx
      split at hx
      · rename_i l h1
        obtain ⟨rfl, rfl⟩ := ok1_inv hx
        have hv := val hy
        rw [h1] at hv
        exact op_s2b ho hs hd hel hv hr (free_next hf rfl)
      · simp at hx
    · rename_i el y hs hd hy
      split at hop <;> simp at hop
      rename_i hel
      subst hop
      simp only [exe] at hx
      split at hx
      · simp at hx
      · rename_i u hu
        split at hx
        · rename_i cs hcs
          obtain ⟨u', h1, rfl, rfl⟩ := okM_inv hx
          simp only [Option.map_eq_some_iff] at h1
          obtain ⟨l, h2, rfl⟩ := h1
          exact op_b2s ho hs hd hel (val hy) hu hcs h2 hr
        · simp at hx
    · rename_i t y hs hd hy
      split at hop <;> simp at hop
      rename_i n hsz
      subst hop
      simp only [exe] at hx
      split at hx
      · rename_i i k h1
        split at hx
        · rename_i b hb
          split at hx
          · rename_i hc
            obtain ⟨rfl, rfl⟩ := ok1_inv hx
            have hv := val hy
            rw [h1] at hv
            exact op_tous ho hs hd hsz hv hb hc.1 hc.2 hr
          · simp at hx
        · simp at hx
      · simp at hx
    · rename_i t y hs hd hy
      split at hop <;> simp at hop
      rename_i n hsz
      subst hop
      simp only [exe] at hx
      split at hx
      · rename_i i k h1
        split at hx
        · rename_i b hb
          split at hx
          · rename_i hc
            obtain ⟨g1, rfl, g2, g3, g4⟩ := hc
            obtain ⟨rfl, rfl⟩ := ok1_inv hx
            have hv := val hy
            rw [h1] at hv
            exact op_frus ho hs hd hsz hv hb g1 g2 g3 g4 hr
          · simp at hx
        · simp at hx
      · simp at hx
    · simp at hop
  · -- makeInterface
    rename_i t x ho
    split at hop
    · simp at hop
    · rename_i d y hni hu hy
      simp at hop; subst hop
      have fin : ∀ v, y.val e = v → Does P (Post B φ H w (.ok (.iface t v)) H) ((execOp a.eval o).run P w) := by
        intro v hv
        have hvx := val hy
        rw [hv] at hvx
        refine does_same hr (s := Instr.makeInterface t (a.eval x)) (by simp only [execOp, ho]) (v' := .iface t (a.eval x)) ?_ (VRs.iface t hvx .nil)
        cases d <;> first | (exact absurd rfl (hni _)) | simp [Instr.makeInterface, run_underlying hu]
      simp only [exe] at hx
      split at hx
      · simp at hx
      · obtain ⟨rfl, rfl⟩ := ok1_inv hx
        exact fin _ rfl
    · simp at hop
  · -- makeFunc
    rename_i f first cs ho
    split at hop
    · rename_i hfirst
      simp only [Option.map_eq_some_iff] at hop
      obtain ⟨as, has, rfl⟩ := hop
      obtain ⟨rfl, rfl⟩ := ok1_inv hx
      have hvs := ofOps_ok hg he has
      have hfi : first = #[] := Array.eq_empty_of_size_eq_zero hfirst
      refine does_same hr (s := Instr.makeFunc (.func f) (first.map a.eval) (cs.map a.eval)) (by simp only [execOp, ho]) (v' := .func (.func f) #[] (cs.map a.eval)) ?_ (VRs.func f (by simpa using hvs) .nil)
      subst hfi
      simp [Instr.makeFunc]
    · simp at hop
  · -- makeSlice
    rename_i t l c ho
    split at hop
    · rename_i el l' c' hu hl hc
      split at hop
      · rename_i n by_ z h1 h2 h3
        split at hop <;> simp at hop
        rename_i h4
        subst hop
        simp only [exe] at hx
        split at hx
        · rename_i p q hp hq
          split at hx
          · rename_i hcond
            obtain ⟨g1, g2, g3, g4, g5⟩ := hcond
            obtain ⟨rfl, rfl⟩ := ok1_inv hx
            have hvl := val hl
            have hvc := val hc
            rw [hp] at hvl
            rw [hq] at hvc
            exact op_mks ho hu h1 h2 h3 h4 hvl hvc g1 g2 g3 g4 hr (free_next hf rfl)
          · simp at hx
        · simp at hx
      · simp at hop
    · simp at hop
  · -- slice
    rename_i t x lo hi mx ho
    split at hop
    · rename_i x' lo' hi' hu hx' hlo hhi hmx
      simp at hop; subst hop
      have hmn : mx = none := by cases mx with | none => rfl | some m => simp [optOp] at hmx
      subst hmn
      simp only [exe] at hx
      split at hx
      · rename_i s h1
        split at hx
        · rename_i l h h2
          obtain ⟨rfl, rfl⟩ := ok1_inv hx
          have hv := val hx'
          rw [h1] at hv
          refine does_same hr (s := Instr.sliceAt t (a.eval x) (lo.map a.eval) (hi.map a.eval) none) (by simp only [execOp, ho, Option.map_none]) ?_ (VR.str _)
          rw [hv.str_inv]
          exact sub_ok hu h2 (optOp_ok hg he hlo) (optOp_ok hg he hhi)
        · simp at hx
      · simp at hx
    · rename_i el x' lo' hi' mx' hu hx' hlo hhi hmx
      simp only [Option.map_eq_some_iff] at hop
      obtain ⟨z, hsz, rfl⟩ := hop
      have hv := val hx'
      have hl := optOp_ok hg he hlo
      have hh := optOp_ok hg he hhi
      have hm := optOp_ok hg he hmx
      have hs := run_sizeOf' hsz
      have hex : execOp a.eval o = (do pure (.value (← Instr.sliceAt t (a.eval x) (lo.map a.eval) (hi.map a.eval) (mx.map a.eval)))) := by simp only [execOp, ho]
      simp only [exe] at hx
      split at hx
      · rename_i i off z' n c h1
        rw [h1] at hv
        split at hx
        · rename_i hz
          subst hz
          split at hx
          · have hmn : mx = none := by cases mx with | none => rfl | some m => simp [optOp, Option.map_eq_some_iff] at hmx
            subst hmn
            split at hx
            · rename_i l h h2
              obtain ⟨rfl, rfl⟩ := ok1_inv hx
              rcases Nat.lt_or_ge n 0 with _ | _
              · omega
              have hb0 := bnds_ok (P := P) (w := w) h2 hl hh true (Nat.le_refl n)
              have hln : h ≤ n := by
                by_cases hhn : hi'.map (·.val e) = none
                · rw [hb0.2.2.1 hhn]; exact Nat.le_refl _
                · exact hb0.2.2.2 hhn
              obtain ⟨ad, cc, e1, e2, e3, _⟩ := cut_ok (m := 0) hv hb0.2.1 hln
              refine does_same hr hex ?_ (e3 (c.map (· - l)) (fun d hd => ?_))
              · have hb1 := bnds_ok (P := P) (w := w) h2 hl hh true e2
                rw [e1]
                simp only [Option.map_none] at hb1 ⊢
                simp [Instr.sliceAt, run_underlying hu, Instr.slice, hb1.1, hs]
                split <;> rfl
              · simp only [Option.map_eq_some_iff] at hd
                obtain ⟨d0, hd0, rfl⟩ := hd
                rcases hv.sl_inv with ⟨_, _, _, cc', _, _, _, e6, e7⟩ | ⟨_, e6, _, e7⟩
                · rw [e1] at e7; simp at e7; have := e6 d0 hd0; omega
                · rw [e1] at e7; simp at e7; have := e6 d0 hd0; omega
            · simp at hx
          · rename_i m hmx'
            split at hx
            · simp at hx
            · rename_i mn hmn
              split at hx
              · simp at hx
              · rename_i hv' hhv
                split at hx
                · rename_i l h h2
                  obtain ⟨rfl, rfl⟩ := ok1_inv hx
                  simp only [Option.map_some] at hm hh
                  cases hmv : mx.map a.eval with
                  | none => rw [hmv] at hm; cases hm
                  | some vm =>
                    rw [hmv] at hm
                    cases hm with
                    | some hm1 =>
                      cases hhv2 : hi.map a.eval with
                      | none => rw [hhv2] at hh; cases hh
                      | some vh =>
                        rw [hhv2] at hh
                        cases hh with
                        | some hh1 =>
                          have hb0 := bnds3_ok (P := P) (w := w) hmn h2 hl hh1 hm1 (Nat.le_refl n)
                          obtain ⟨ad, cc, e1, e2, _, e4⟩ := cut_ok (m := mn) hv hb0.2.1 (by omega)
                          refine does_same hr hex ?_ (e4 hb0.2.2.1 hb0.2.2.2)
                          have hb1 := bnds3_ok (P := P) (w := w) hmn h2 hl hh1 hm1 e2
                          rw [e1, hmv, hhv2]
                          simp [Instr.sliceAt, run_underlying hu, Instr.slice, hb1.1, hs]
                          split <;> rfl
                · simp at hx
        · simp at hx
      · rename_i h1
        rw [h1] at hv
        split at hx
        · have hmn : mx = none := by cases mx with | none => rfl | some m => simp [optOp, Option.map_eq_some_iff] at hmx
          subst hmn
          split at hx
          · rename_i p h2
            obtain ⟨rfl, rfl⟩ := ok1_inv hx
            have hb1 := bnds_ok (P := P) (w := w) (l := p.1) (h := p.2) h2 hl hh true (Nat.le_refl 0)
            have h0 : p.2 = 0 := by
              by_cases hhn : hi'.map (·.val e) = none
              · exact hb1.2.2.1 hhn
              · have := hb1.2.2.2 hhn; omega
            have h00 : p.1 = 0 := by have := hb1.2.1; omega
            refine does_same hr hex (v' := .slice none 0 0) ?_ (VRs.nils .nil)
            rw [hv.nils_inv]
            simp only [Option.map_none] at hb1 ⊢
            have hb2 := hb1.1
            rw [h0, h00] at hb2
            simp [Instr.sliceAt, run_underlying hu, Instr.slice, hb2, hs]
          · simp at hx
        · simp at hx
      · rename_i h1
        rw [h1] at hv
        split at hx
        · have hmn : mx = none := by cases mx with | none => rfl | some m => simp [optOp, Option.map_eq_some_iff] at hmx
          subst hmn
          split at hx
          · rename_i p h2
            obtain ⟨rfl, rfl⟩ := ok1_inv hx
            obtain ⟨ad, cc, e1⟩ := hv.esl_inv
            have hb1 := bnds_ok (P := P) (w := w) (l := p.1) (h := p.2) h2 hl hh true (Nat.zero_le cc)
            have h0 : p.2 = 0 := by
              by_cases hhn : hi'.map (·.val e) = none
              · exact hb1.2.2.1 hhn
              · have := hb1.2.2.2 hhn; omega
            have h00 : p.1 = 0 := by have := hb1.2.1; omega
            refine does_same hr hex (v' := .slice (some (if cc = 0 then ad else ad.add (0 * z))) 0 cc) ?_ (VRs.esl _ _ .nil)
            rw [e1]
            simp only [Option.map_none] at hb1 ⊢
            have hb2 := hb1.1
            rw [h0, h00] at hb2
            simp [Instr.sliceAt, run_underlying hu, Instr.slice, hb2, hs]
            split <;> rfl
          · simp at hx
        · simp at hx
      · simp at hx
    · rename_i n el x' lo' hi' mx' hu hx' hlo hhi hmx
      simp only [Option.map_eq_some_iff] at hop
      obtain ⟨z, hsz, rfl⟩ := hop
      have hv := val hx'
      have hl := optOp_ok hg he hlo
      have hh := optOp_ok hg he hhi
      have hs := run_sizeOf' hsz
      simp only [exe] at hx
      split at hx
      · rename_i i off h1
        rw [h1] at hv
        split at hx
        · rename_i b hb
          have hmn : mx = none := by cases mx with | none => rfl | some m => simp [optOp, Option.map_eq_some_iff] at hmx
          subst hmn
          split at hx
          · rename_i hle
            split at hx
            · rename_i l h h2
              obtain ⟨rfl, rfl⟩ := ok1_inv hx
              obtain ⟨p, s, m, e1, e2⟩ := hv.ptr_inv
              obtain ⟨p', s', m', e', br⟩ := hr.blk i b hb
              rw [e1] at e'; simp at e'; obtain ⟨rfl, rfl, rfl⟩ := e'
              have hb1 := bnds_ok (P := P) (w := w) h2 hl hh false (Nat.le_refl n)
              have hln : h ≤ n := by
                by_cases hhn : hi'.map (·.val e) = none
                · rw [hb1.2.2.1 hhn]; exact Nat.le_refl _
                · exact hb1.2.2.2 hhn
              have hsl : VR φ (.sl i off z n (some n)) (.slice (some ⟨p, s + off, none⟩) n n) := VR.sl e1 (fun r hm => by
                cases hro : b.ro with
                | true => have := (br.ro hro).2; rw [hm] at this; cases this
                | false => obtain ⟨_, r', hm', _, hsr, _⟩ := br.own hro; rw [hm] at hm'; simp at hm'; omega) (Nat.le_refl _) (fun d hd => by simpa using hd)
              obtain ⟨ad, cc, e3, e4, e5, _⟩ := cut_ok (m := 0) hsl hb1.2.1 hln
              simp only [Value.slice.injEq, Option.some.injEq] at e3
              obtain ⟨rfl, _, rfl⟩ := e3
              refine does_same hr (s := Instr.sliceAt t (a.eval x) (lo.map a.eval) (hi.map a.eval) none) (by simp only [execOp, ho, Option.map_none]) ?_ (e5 (some (n - l)) (fun d hd => by simpa using hd))
              rw [e2]
              simp [Instr.sliceAt, run_underlying hu, Instr.sureAddr, hb1.1, hs]
            · simp at hx
          · simp at hx
        · simp at hx
      · simp at hx
    · simp at hop
  · -- fieldAddr
    rename_i t x f ho
    split at hop
    · rename_i fs y hu hy
      split at hop
      · rename_i fd hfd
        split at hop <;> simp at hop
        rename_i n hsz
        subst hop
        simp only [exe] at hx
        split at hx
        · rename_i i k h1
          obtain ⟨rfl, rfl⟩ := ok1_inv hx
          have hv := val hy
          rw [h1] at hv
          obtain ⟨p, s, m, e1, e2⟩ := hv.ptr_inv
          refine does_same hr (s := Instr.fieldAt t (a.eval x) f) (by simp only [execOp, ho]) (v' := .pointer (some ⟨p, s + (k + fd.offset), none⟩)) ?_ (VR.ptr e1)
          rw [e2]
          simp [Instr.fieldAt, run_underlying hu, hfd, Instr.sureAddr, fieldPlace, run_sizeOf' hsz, add_eq, Nat.add_assoc]
        · simp at hx
      · simp at hop
    · simp at hop
  · -- field
    rename_i t x f ho
    split at hop
    · rename_i fs y hu hy
      split at hop
      · rename_i fd hfd
        simp only [Option.map_eq_some_iff] at hop
        obtain ⟨n, hn, rfl⟩ := hop
        simp only [exe] at hx
        split at hx
        · rename_i cs h1
          obtain ⟨u, h2, rfl, rfl⟩ := okM_inv hx
          have hv := val hy
          rw [h1] at hv
          obtain ⟨ds, h3, h4⟩ := hv.agg_inv
          obtain ⟨v', h5, h6⟩ := fldOf_ok (P := P) (w := w) hn h3 h2
          refine does_same hr (s := Instr.field t (a.eval x) f) (by simp only [execOp, ho]) ?_ h6
          rw [h4]
          simp [Instr.field, run_underlying hu, hfd, asAgg, h5]
        · simp at hx
      · simp at hop
    · simp at hop
  · -- indexAddr
    rename_i t x ix ho
    split at hop
    · rename_i n el y j hu hy hj
      simp only [Option.map_eq_some_iff] at hop
      obtain ⟨z, hsz, rfl⟩ := hop
      simp only [exe] at hx
      split at hx
      · rename_i i k kd jj h1 h2
        split at hx
        · rename_i hb
          obtain ⟨rfl, rfl⟩ := ok1_inv hx
          have hv := val hy
          have hw := val hj
          rw [h1] at hv
          rw [h2] at hw
          obtain ⟨p, s, m, e1, e2⟩ := hv.ptr_inv
          refine does_same hr (s := Instr.indexAt t (a.eval x) (a.eval ix)) (by simp only [execOp, ho]) (v' := .pointer (some ⟨p, s + (k + jj.toNat * z), none⟩)) ?_ (VR.ptr e1)
          rw [e2, hw.int_inv]
          simp [Instr.indexAt, run_underlying hu, asIntOf, Instr.sureAddr, hb, run_sizeOf' hsz, add_eq, Nat.add_assoc]
        · simp at hx
      · simp at hx
    · rename_i el y j hu hy hj
      simp only [Option.map_eq_some_iff] at hop
      obtain ⟨z, hsz, rfl⟩ := hop
      simp only [exe] at hx
      split at hx
      · rename_i i k z' n cp kd jj h1 h2
        split at hx
        · rename_i hb
          obtain ⟨rfl, hb⟩ := hb
          obtain ⟨rfl, rfl⟩ := ok1_inv hx
          have hv := val hy
          have hw := val hj
          rw [h1] at hv
          rw [h2] at hw
          rcases hv.sl_inv with ⟨p, s, m, cc, e1, _, _, _, e2⟩ | ⟨rfl, _⟩
          · refine does_same hr (s := Instr.indexAt t (a.eval x) (a.eval ix)) (by simp only [execOp, ho]) (v' := .pointer (some ⟨p, s + (k + jj.toNat * z'), none⟩)) ?_ (VR.ptr e1)
            rw [e2, hw.int_inv]
            simp [Instr.indexAt, run_underlying hu, asIntOf, hb, run_sizeOf' hsz, add_eq, Nat.add_assoc]
          · omega
        · simp at hx
      · simp at hx
    · simp at hop
  · -- index
    rename_i t x ix ho
    split at hop
    · rename_i y j hu hy hj
      simp at hop; subst hop
      simp only [exe] at hx
      split at hx
      · rename_i s kd jj h1 h2
        split at hx
        · rename_i hb
          obtain ⟨u, h3, rfl, rfl⟩ := okM_inv hx
          simp only [Option.map_eq_some_iff] at h3
          obtain ⟨b, h4, rfl⟩ := h3
          have hv := val hy
          have hw := val hj
          rw [h1] at hv
          rw [h2] at hw
          refine does_same hr (s := Instr.index t (a.eval x) (a.eval ix)) (by simp only [execOp, ho]) ?_ (VR.int _ _)
          rw [hv.str_inv, hw.int_inv]
          have h5 := index_str s jj.toNat
          rw [h4] at h5
          simp [Instr.index, run_underlying hu, asIntOf, hb, h5]
        · simp at hx
      · simp at hx
    · rename_i n el y j hu hy hj
      split at hop <;> simp at hop
      rename_i z p hsz hp
      subst hop
      simp only [exe] at hx
      split at hx
      · rename_i cs kd jj h1 h2
        split at hx
        · rename_i hb
          obtain ⟨u, h3, rfl, rfl⟩ := okM_inv hx
          have hv := val hy
          have hw := val hj
          rw [h1] at hv
          rw [h2] at hw
          obtain ⟨ds, h4, h5⟩ := hv.agg_inv
          obtain ⟨v', h6, h7⟩ := fldOf_ok (P := P) (w := w) hp h4 h3
          refine does_same hr (s := Instr.index t (a.eval x) (a.eval ix)) (by simp only [execOp, ho]) ?_ h7
          rw [h5, hw.int_inv]
          simp [Instr.index, run_underlying hu, asIntOf, hb, run_sizeOf' hsz, h6]
        · simp at hx
      · simp at hx
    · simp at hop
  · -- typeAssert
    rename_i x xt t ok ho
    split at hop
    · simp at hop
    · rename_i d z y hni hu hz hy
      simp only [Option.map_eq_some_iff] at hop
      obtain ⟨zz, hzz, rfl⟩ := hop
      have hzero : (zeroValue t).run P w = .ok z w := by
        cases hi : P.info? t with
        | none => simp [hi] at hz
        | some i => simp [hi] at hz; simp [zeroValue, typeInfo, hi, hz]
      have hzv : VR φ zz z := ofV_ok hzz
      have hv := val hy
      simp only [exe] at hx
      split at hx
      · rename_i t' v h1
        rw [h1] at hv
        obtain ⟨v', h2, h3⟩ := hv.iface_inv
        split at hx
        · rename_i ht
          subst ht
          obtain ⟨rfl, rfl⟩ := ok1_inv hx
          refine does_same hr (s := Instr.typeAssert (a.eval x) xt t' ok) (by simp only [execOp, ho]) (v' := if ok then .tuple #[v', .bool true] else v') ?_ ?_
          · rw [h3]
            cases d <;> first | (exact absurd rfl (hni _)) | simp [Instr.typeAssert, run_underlying hu]
          · cases ok
            · exact h2
            · exact VR.tup (.cons h2 (.cons (VR.bool _) .nil))
        · rename_i ht
          split at hx
          · rename_i hok
            subst hok
            obtain ⟨rfl, rfl⟩ := ok1_inv hx
            refine does_same hr (s := Instr.typeAssert (a.eval x) xt t true) (by simp only [execOp, ho]) (v' := .tuple #[z, .bool false]) ?_ (VR.tup (.cons hzv (.cons (VR.bool _) .nil)))
            rw [h3]
            cases d <;> first | (exact absurd rfl (hni _)) | simp [Instr.typeAssert, run_underlying hu, ht, hzero]
          · simp at hx
      · rename_i h1
        rw [h1] at hv
        split at hx
        · rename_i hok
          subst hok
          obtain ⟨rfl, rfl⟩ := ok1_inv hx
          refine does_same hr (s := Instr.typeAssert (a.eval x) xt t true) (by simp only [execOp, ho]) (v' := .tuple #[z, .bool false]) ?_ (VR.tup (.cons hzv (.cons (VR.bool _) .nil)))
          rw [hv.nili_inv]
          cases d <;> first | (exact absurd rfl (hni _)) | simp [Instr.typeAssert, run_underlying hu, hzero]
        · simp at hx
      · simp at hx
    · simp at hop
  · -- extract
    rename_i x ix ho
    simp only [Option.map_eq_some_iff] at hop
    obtain ⟨y, hy, rfl⟩ := hop
    simp only [exe] at hx
    split at hx
    · rename_i vs h1
      obtain ⟨u, h2, rfl, rfl⟩ := okM_inv hx
      have hv := val hy
      rw [h1] at hv
      obtain ⟨ds, h3, h4⟩ := hv.tup_inv
      obtain ⟨v', h5, h6⟩ := h3.get h2
      refine does_same hr (s := Instr.extract (a.eval x) ix) (by simp only [execOp, ho]) ?_ h6
      rw [h4]
      have h7 : ds[ix]? = some v' := by simpa using h5
      simp [Instr.extract, h7]
    · simp at hx
  · -- call
    rename_i c ho
    exact exe_call hcall hr hg he hf ho hop hx
  · -- panic
    rename_i x ho
    simp only [Option.map_eq_some_iff] at hop
    obtain ⟨y, hy, rfl⟩ := hop
    simp only [exe] at hx
    split at hx
    · rename_i t u h1
      simp at hx
      obtain ⟨rfl, rfl⟩ := hx
      have hv := val hy
      rw [h1] at hv
      obtain ⟨v', hv', e1⟩ := hv.iface_inv
      simp [execOp, ho, e1, Instr.panic, Does]
      exact ⟨φ, Step.refl hr, _, rfl, by rw [← e1]; exact hv⟩
    · simp at hx
  · simp at hop

end
end Go.Am
