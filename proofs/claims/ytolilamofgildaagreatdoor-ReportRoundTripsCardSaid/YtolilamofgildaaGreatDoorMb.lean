/-
The abstract machine, part Mb: its texts one after the other. Conditions: those that each theorem names.
-/
import Derived.Test.YtolilamofgildaaGreatDoorMa
import Derived.Orders
import Derived.LoopN
import Derived.Defers
set_option linter.unusedSimpArgs false
set_option linter.unusedVariables false
set_option linter.defProp false

/- Every operation of the model that the compiler takes does what the abstract machine's does. Conditions: the heap stands to the world, the temporaries to the values, and calls do what the machine's calls do. -/
namespace Go.Am
open Go.RowKit

section
variable {P : Program} {B : Base} {φ : Emb} {H H' : AH} {w : World} {a : Act} {e : Env} {o : Oper} {call : Call} {out : Out}

theorem exe_ok (hcall : CallOk P B call) (hr : Rel B φ H w) (hg : GlobR P φ) (he : EnvR φ e a.tmps) (hf : Free φ H.next H'.next) {op : AOp} (hop : cop P o = some op) (hx : exe call e op H = some (out, H')) :
    Does P (Post B φ H w out H') ((execOp a.eval o).run P w) := by
  have val : ∀ {x : Operand} {y : Arg}, ofOp P x = some y → VR φ (y.val e) (a.eval x) := fun h => ofOp_ok hg he h
  unfold cop at hop
  split at hop
  · -- move
    rename_i x ho
    simp only [Option.map_eq_some_iff] at hop
    obtain ⟨y, hy, rfl⟩ := hop
    obtain ⟨rfl, rfl⟩ := ok1_inv hx
    simp only [execOp, ho, Sem.run_pure, Does]
    exact Post.ok (Step.refl hr) (val hy)
  · -- assign
    rename_i x ho
    simp only [Option.map_eq_some_iff] at hop
    obtain ⟨y, hy, rfl⟩ := hop
    obtain ⟨rfl, rfl⟩ := ok1_inv hx
    simp only [execOp, ho, Sem.run_pure, Does]
    exact Post.ok (Step.refl hr) (val hy)
  · -- pick
    rename_i c x y ho
    split at hop <;> simp at hop
    subst hop
    rename_i c' x' y' hc hx' hy'
    simp only [exe] at hx
    split at hx
    · rename_i t ht
      obtain ⟨rfl, rfl⟩ := ok1_inv hx
      have hcv := val hc
      rw [ht] at hcv
      simp only [execOp, ho, hcv.bool_inv, asBool, Sem.run_bind, Sem.run_pure, Result.andThen_ok, Does]
      refine Post.ok (Step.refl hr) ?_
      cases t
      · exact val hy'
      · exact val hx'
    · simp at hx
  · -- alloc
    rename_i t ho
    simp only [Option.map_eq_some_iff] at hop
    obtain ⟨z, hz, rfl⟩ := hop
    obtain ⟨rfl, rfl⟩ := ok1_inv hx
    exact op_alloc ho hz hr (free_next hf rfl)
  · -- box
    rename_i t x ho
    simp only [Option.map_eq_some_iff] at hop
    obtain ⟨y, hy, rfl⟩ := hop
    simp only [exe] at hx
    split at hx
    · rename_i cs hc
      obtain ⟨rfl, rfl⟩ := ok1_inv hx
      exact op_box ho (val hy) hc hr (free_next hf rfl)
    · simp at hx
  · -- build
    rename_i t parts ho
    split at hop
    · rename_i z fs hz hu
      split at hop
      · rename_i hsz
        simp only [Option.map_eq_some_iff] at hop
        obtain ⟨l, hl, rfl⟩ := hop
        obtain ⟨u, h1, rfl, rfl⟩ := okM_inv hx
        simp only [Option.map_eq_some_iff] at h1
        obtain ⟨cs, h2, rfl⟩ := h1
        exact op_bld_st ho hz hu hsz hl h2 hg he hr
      · simp at hop
    · rename_i z k el hz hu
      split at hop
      · rename_i n hsz
        simp only [Option.map_eq_some_iff] at hop
        obtain ⟨l, hl, rfl⟩ := hop
        obtain ⟨u, h1, rfl, rfl⟩ := okM_inv hx
        simp only [Option.map_eq_some_iff] at h1
        obtain ⟨cs, h2, rfl⟩ := h1
        exact op_bld_arr ho hz hu hsz hl h2 hg he hr
      · simp at hop
    · simp at hop
  · -- buildSlice
    rename_i t len parts ho
    split at hop
    · rename_i el hu
      split at hop
      · rename_i n z hsz hz
        split at hop
        · rename_i hc
          simp only [Option.map_eq_some_iff] at hop
          obtain ⟨l, hl, rfl⟩ := hop
          simp only [exe] at hx
          split at hx
          · rename_i cs h2
            obtain ⟨rfl, rfl⟩ := ok1_inv hx
            exact op_bsl ho hu hsz hz hc.1 hc.2 hl h2 hg he hr (free_next hf rfl)
          · simp at hx
        · simp at hop
      · simp at hop
    · simp at hop
  · -- load
    rename_i t x ho
    split at hop
    · rename_i y hp hy
      simp at hop; subst hop
      simp only [exe] at hx
      split at hx
      · rename_i i k hik
        split at hx
        · rename_i b hb
          obtain ⟨u, h1, rfl, rfl⟩ := okM_inv hx
          have hv := val hy
          rw [hik] at hv
          exact op_ld1 ho hp hv hb h1 hr
        · simp at hx
      · simp at hx
    · rename_i n y hp hy
      simp at hop; subst hop
      simp only [exe] at hx
      split at hx
      · rename_i i k hik
        obtain ⟨u, h1, rfl, rfl⟩ := okM_inv hx
        simp only [Option.map_eq_some_iff] at h1
        obtain ⟨cs, h2, rfl⟩ := h1
        have hv := val hy
        rw [hik] at hv
        exact op_ldn ho hp hv h2 hr
      · simp at hx
    · simp at hop
  · -- store
    rename_i t x y ho
    split at hop
    · rename_i n x' y' hsz hx' hy'
      simp at hop; subst hop
      simp only [exe] at hx
      split at hx
      · rename_i i k cs h1 h2
        split at hx
        · rename_i hl
          simp only [Option.map_eq_some_iff, Prod.mk.injEq] at hx
          obtain ⟨H2, hst, rfl, rfl⟩ := hx
          have hv := val hx'
          rw [h1] at hv
          exact op_st ho hsz hv (val hy') h2 hl hst hr
        · simp at hx
      · simp at hx
    · simp at hop
  · -- nilCheck
    rename_i x ho
    simp only [Option.map_eq_some_iff] at hop
    obtain ⟨y, hy, rfl⟩ := hop
    simp only [exe] at hx
    split at hx
    · rename_i i k h1
      obtain ⟨rfl, rfl⟩ := ok1_inv hx
      have hv := val hy
      rw [h1] at hv
      obtain ⟨p, s, m, e1, e2⟩ := hv.ptr_inv
      simp only [execOp, ho, e2, Sem.run_pure, Does]
      exact Post.ok (Step.refl hr) (VR.ptr e1)
    · simp at hx
  · -- binOp
    rename_i bop t x y yt ho
    split at hop
    · rename_i x' y' hx' hy'
      have bin : op = .bin bop x' y' → Does P (Post B φ H w out H') ((execOp a.eval o).run P w) := by
        intro h; subst h
        obtain ⟨u, h1, rfl, rfl⟩ := okM_inv hx
        obtain ⟨r', h2, h3⟩ := abin_ok (P := P) (w := w) (t := t) (x := x) (y := y) h1 (val hx') (val hy')
        exact does_same hr (by simp only [execOp, ho]) h2 h3
      split at hop
      · rename_i heq
        split at hop
        · simp at hop; exact bin hop.symm
        · simp at hop; exact bin hop.symm
        · rename_i d hd1 hd2 hd
          simp at hop; subst hop
          obtain ⟨u, h1, rfl, rfl⟩ := okM_inv hx
          obtain ⟨r', h2, h3⟩ := aeqv_ok (P := P) (w := w) (x := x) (y := y) heq hd ⟨fun h => hd1 h, fun h => hd2 h⟩ h1 (val hx') (val hy')
          exact does_same hr (by simp only [execOp, ho]) h2 h3
        · simp at hop
      · simp at hop; exact bin hop.symm
    · simp at hop
  · -- unOp
    rename_i uop t x ho
    simp only [Option.map_eq_some_iff] at hop
    obtain ⟨y, hy, rfl⟩ := hop
    obtain ⟨u, h1, rfl, rfl⟩ := okM_inv hx
    obtain ⟨r', h2, h3⟩ := aun_ok (P := P) (w := w) h1 (val hy)
    exact does_same hr (by simp only [execOp, ho]) h2 h3
  · -- convert
    rename_i s d x ho
    split at hop
    · rename_i k0 k y hs hd hy
      simp at hop; subst hop
      simp only [exe] at hx
      split at hx
      · rename_i k' n h1
        obtain ⟨rfl, rfl⟩ := ok1_inv hx
        have hv := val hy
        rw [h1] at hv
        refine does_same hr (s := convert s d (a.eval x)) (by simp only [execOp, ho]) ?_ (VR.int _ _)
        rw [hv.int_inv]
        simp [convert, run_underlying hs, run_underlying hd, Conv.intToInt]
      · simp at hx
    · rename_i y hs hd hy
      simp at hop; subst hop
      simp only [exe] at hx
      split at hx
      · rename_i l h1
        obtain ⟨rfl, rfl⟩ := ok1_inv hx
        have hv := val hy
        rw [h1] at hv
        refine does_same hr (s := convert s d (a.eval x)) (by simp only [execOp, ho]) (v' := a.eval x) ?_ hv
        rw [hv.str_inv]
        simp [convert, run_underlying hs, run_underlying hd]
      · simp at hx
    · rename_i el y hs hd hy
      split at hop <;> simp at hop
      rename_i hel
      subst hop
      simp only [exe] at hx
      split at hx
      · rename_i l h1
        obtain ⟨rfl, rfl⟩ := ok1_inv hx
        have hv := val hy
        rw [h1] at hv
        exact op_s2b ho hs hd hel hv hr (free_next hf rfl)
      · simp at hx
    · rename_i el y hs hd hy
      split at hop <;> simp at hop
      rename_i hel
      subst hop
      simp only [exe] at hx
      split at hx
      · simp at hx
      · rename_i u hu
        split at hx
        · rename_i cs hcs
          obtain ⟨u', h1, rfl, rfl⟩ := okM_inv hx
          simp only [Option.map_eq_some_iff] at h1
          obtain ⟨l, h2, rfl⟩ := h1
          exact op_b2s ho hs hd hel (val hy) hu hcs h2 hr
        · simp at hx
    · rename_i t y hs hd hy
      split at hop <;> simp at hop
      rename_i n hsz
      subst hop
      simp only [exe] at hx
      split at hx
      · rename_i i k h1
        split at hx
        · rename_i b hb
          split at hx
          · rename_i hc
            obtain ⟨rfl, rfl⟩ := ok1_inv hx
            have hv := val hy
            rw [h1] at hv
            exact op_tous ho hs hd hsz hv hb hc.1 hc.2 hr
          · simp at hx
        · simp at hx
      · simp at hx
    · rename_i t y hs hd hy
      split at hop <;> simp at hop
      rename_i n hsz
      subst hop
      simp only [exe] at hx
      split at hx
      · rename_i i k h1
        split at hx
        · rename_i b hb
          split at hx
          · rename_i hc
            obtain ⟨g1, rfl, g2, g3, g4⟩ := hc
            obtain ⟨rfl, rfl⟩ := ok1_inv hx
            have hv := val hy
            rw [h1] at hv
            exact op_frus ho hs hd hsz hv hb g1 g2 g3 g4 hr
          · simp at hx
        · simp at hx
      · simp at hx
    · simp at hop
  · -- makeInterface
    rename_i t x ho
    split at hop
    · simp at hop
    · rename_i d y hni hu hy
      simp at hop; subst hop
      have fin : ∀ v, y.val e = v → Does P (Post B φ H w (.ok (.iface t v)) H) ((execOp a.eval o).run P w) := by
        intro v hv
        have hvx := val hy
        rw [hv] at hvx
        refine does_same hr (s := Instr.makeInterface t (a.eval x)) (by simp only [execOp, ho]) (v' := .iface t (a.eval x)) ?_ (VRs.iface t hvx .nil)
        cases d <;> first | (exact absurd rfl (hni _)) | simp [Instr.makeInterface, run_underlying hu]
      simp only [exe] at hx
      split at hx
      · simp at hx
      · obtain ⟨rfl, rfl⟩ := ok1_inv hx
        exact fin _ rfl
    · simp at hop
  · -- makeFunc
    rename_i f first cs ho
    split at hop
    · rename_i hfirst
      simp only [Option.map_eq_some_iff] at hop
      obtain ⟨as, has, rfl⟩ := hop
      obtain ⟨rfl, rfl⟩ := ok1_inv hx
      have hvs := ofOps_ok hg he has
      have hfi : first = #[] := Array.eq_empty_of_size_eq_zero hfirst
      refine does_same hr (s := Instr.makeFunc (.func f) (first.map a.eval) (cs.map a.eval)) (by simp only [execOp, ho]) (v' := .func (.func f) #[] (cs.map a.eval)) ?_ (VRs.func f (by simpa using hvs) .nil)
      subst hfi
      simp [Instr.makeFunc]
    · simp at hop
  · -- makeSlice
    rename_i t l c ho
    split at hop
    · rename_i el l' c' hu hl hc
      split at hop
      · rename_i n by_ z h1 h2 h3
        split at hop <;> simp at hop
        rename_i h4
        subst hop
        simp only [exe] at hx
        split at hx
        · rename_i p q hp hq
          split at hx
          · rename_i hcond
            obtain ⟨g1, g2, g3, g4, g5⟩ := hcond
            obtain ⟨rfl, rfl⟩ := ok1_inv hx
            have hvl := val hl
            have hvc := val hc
            rw [hp] at hvl
            rw [hq] at hvc
            exact op_mks ho hu h1 h2 h3 h4 hvl hvc g1 g2 g3 g4 hr (free_next hf rfl)
          · simp at hx
        · simp at hx
      · simp at hop
    · simp at hop
  · -- slice
    rename_i t x lo hi mx ho
    split at hop
    · rename_i x' lo' hi' hu hx' hlo hhi hmx
      simp at hop; subst hop
      have hmn : mx = none := by cases mx with | none => rfl | some m => simp [optOp] at hmx
      subst hmn
      simp only [exe] at hx
      split at hx
      · rename_i s h1
        split at hx
        · rename_i l h h2
          obtain ⟨rfl, rfl⟩ := ok1_inv hx
          have hv := val hx'
          rw [h1] at hv
          refine does_same hr (s := Instr.sliceAt t (a.eval x) (lo.map a.eval) (hi.map a.eval) none) (by simp only [execOp, ho, Option.map_none]) ?_ (VR.str _)
          rw [hv.str_inv]
          exact sub_ok hu h2 (optOp_ok hg he hlo) (optOp_ok hg he hhi)
        · simp at hx
      · simp at hx
    · rename_i el x' lo' hi' mx' hu hx' hlo hhi hmx
      simp only [Option.map_eq_some_iff] at hop
      obtain ⟨z, hsz, rfl⟩ := hop
      have hv := val hx'
      have hl := optOp_ok hg he hlo
      have hh := optOp_ok hg he hhi
      have hm := optOp_ok hg he hmx
      have hs := run_sizeOf' hsz
      have hex : execOp a.eval o = (do pure (.value (← Instr.sliceAt t (a.eval x) (lo.map a.eval) (hi.map a.eval) (mx.map a.eval)))) := by simp only [execOp, ho]
      simp only [exe] at hx
      split at hx
      · rename_i i off z' n c h1
        rw [h1] at hv
        split at hx
        · rename_i hz
          subst hz
          split at hx
          · have hmn : mx = none := by cases mx with | none => rfl | some m => simp [optOp, Option.map_eq_some_iff] at hmx
            subst hmn
            split at hx
            · rename_i l h h2
              obtain ⟨rfl, rfl⟩ := ok1_inv hx
              rcases Nat.lt_or_ge n 0 with _ | _
              · omega
              have hb0 := bnds_ok (P := P) (w := w) h2 hl hh true (Nat.le_refl n)
              have hln : h ≤ n := by
                by_cases hhn : hi'.map (·.val e) = none
                · rw [hb0.2.2.1 hhn]; exact Nat.le_refl _
                · exact hb0.2.2.2 hhn
              obtain ⟨ad, cc, e1, e2, e3, _⟩ := cut_ok (m := 0) hv hb0.2.1 hln
              refine does_same hr hex ?_ (e3 (c.map (· - l)) (fun d hd => ?_))
              · have hb1 := bnds_ok (P := P) (w := w) h2 hl hh true e2
                rw [e1]
                simp only [Option.map_none] at hb1 ⊢
                simp [Instr.sliceAt, run_underlying hu, Instr.slice, hb1.1, hs]
                split <;> rfl
              · simp only [Option.map_eq_some_iff] at hd
                obtain ⟨d0, hd0, rfl⟩ := hd
                rcases hv.sl_inv with ⟨_, _, _, cc', _, _, _, e6, e7⟩ | ⟨_, e6, _, e7⟩
                · rw [e1] at e7; simp at e7; have := e6 d0 hd0; omega
                · rw [e1] at e7; simp at e7; have := e6 d0 hd0; omega
            · simp at hx
          · rename_i m hmx'
            split at hx
            · simp at hx
            · rename_i mn hmn
              split at hx
              · simp at hx
              · rename_i hv' hhv
                split at hx
                · rename_i l h h2
                  obtain ⟨rfl, rfl⟩ := ok1_inv hx
                  simp only [Option.map_some] at hm hh
                  cases hmv : mx.map a.eval with
                  | none => rw [hmv] at hm; cases hm
                  | some vm =>
                    rw [hmv] at hm
                    cases hm with
                    | some hm1 =>
                      cases hhv2 : hi.map a.eval with
                      | none => rw [hhv2] at hh; cases hh
                      | some vh =>
                        rw [hhv2] at hh
                        cases hh with
                        | some hh1 =>
                          have hb0 := bnds3_ok (P := P) (w := w) hmn h2 hl hh1 hm1 (Nat.le_refl n)
                          obtain ⟨ad, cc, e1, e2, _, e4⟩ := cut_ok (m := mn) hv hb0.2.1 (by omega)
                          refine does_same hr hex ?_ (e4 hb0.2.2.1 hb0.2.2.2)
                          have hb1 := bnds3_ok (P := P) (w := w) hmn h2 hl hh1 hm1 e2
                          rw [e1, hmv, hhv2]
                          simp [Instr.sliceAt, run_underlying hu, Instr.slice, hb1.1, hs]
                          split <;> rfl
                · simp at hx
        · simp at hx
      · rename_i h1
        rw [h1] at hv
        split at hx
        · have hmn : mx = none := by cases mx with | none => rfl | some m => simp [optOp, Option.map_eq_some_iff] at hmx
          subst hmn
          split at hx
          · rename_i p h2
            obtain ⟨rfl, rfl⟩ := ok1_inv hx
            have hb1 := bnds_ok (P := P) (w := w) (l := p.1) (h := p.2) h2 hl hh true (Nat.le_refl 0)
            have h0 : p.2 = 0 := by
              by_cases hhn : hi'.map (·.val e) = none
              · exact hb1.2.2.1 hhn
              · have := hb1.2.2.2 hhn; omega
            have h00 : p.1 = 0 := by have := hb1.2.1; omega
            refine does_same hr hex (v' := .slice none 0 0) ?_ (VRs.nils .nil)
            rw [hv.nils_inv]
            simp only [Option.map_none] at hb1 ⊢
            have hb2 := hb1.1
            rw [h0, h00] at hb2
            simp [Instr.sliceAt, run_underlying hu, Instr.slice, hb2, hs]
          · simp at hx
        · simp at hx
      · rename_i h1
        rw [h1] at hv
        split at hx
        · have hmn : mx = none := by cases mx with | none => rfl | some m => simp [optOp, Option.map_eq_some_iff] at hmx
          subst hmn
          split at hx
          · rename_i p h2
            obtain ⟨rfl, rfl⟩ := ok1_inv hx
            obtain ⟨ad, cc, e1⟩ := hv.esl_inv
            have hb1 := bnds_ok (P := P) (w := w) (l := p.1) (h := p.2) h2 hl hh true (Nat.zero_le cc)
            have h0 : p.2 = 0 := by
              by_cases hhn : hi'.map (·.val e) = none
              · exact hb1.2.2.1 hhn
              · have := hb1.2.2.2 hhn; omega
            have h00 : p.1 = 0 := by have := hb1.2.1; omega
            refine does_same hr hex (v' := .slice (some (if cc = 0 then ad else ad.add (0 * z))) 0 cc) ?_ (VRs.esl _ _ .nil)
            rw [e1]
            simp only [Option.map_none] at hb1 ⊢
            have hb2 := hb1.1
            rw [h0, h00] at hb2
            simp [Instr.sliceAt, run_underlying hu, Instr.slice, hb2, hs]
            split <;> rfl
          · simp at hx
        · simp at hx
      · simp at hx
    · rename_i n el x' lo' hi' mx' hu hx' hlo hhi hmx
      simp only [Option.map_eq_some_iff] at hop
      obtain ⟨z, hsz, rfl⟩ := hop
      have hv := val hx'
      have hl := optOp_ok hg he hlo
      have hh := optOp_ok hg he hhi
      have hs := run_sizeOf' hsz
      simp only [exe] at hx
      split at hx
      · rename_i i off h1
        rw [h1] at hv
        split at hx
        · rename_i b hb
          have hmn : mx = none := by cases mx with | none => rfl | some m => simp [optOp, Option.map_eq_some_iff] at hmx
          subst hmn
          split at hx
          · rename_i hle
            split at hx
            · rename_i l h h2
              obtain ⟨rfl, rfl⟩ := ok1_inv hx
              obtain ⟨p, s, m, e1, e2⟩ := hv.ptr_inv
              obtain ⟨p', s', m', e', br⟩ := hr.blk i b hb
              rw [e1] at e'; simp at e'; obtain ⟨rfl, rfl, rfl⟩ := e'
              have hb1 := bnds_ok (P := P) (w := w) h2 hl hh false (Nat.le_refl n)
              have hln : h ≤ n := by
                by_cases hhn : hi'.map (·.val e) = none
                · rw [hb1.2.2.1 hhn]; exact Nat.le_refl _
                · exact hb1.2.2.2 hhn
              have hsl : VR φ (.sl i off z n (some n)) (.slice (some ⟨p, s + off, none⟩) n n) := VR.sl e1 (fun r hm => by
                cases hro : b.ro with
                | true => have := (br.ro hro).2; rw [hm] at this; cases this
                | false => obtain ⟨_, r', hm', _, hsr, _⟩ := br.own hro; rw [hm] at hm'; simp at hm'; omega) (Nat.le_refl _) (fun d hd => by simpa using hd)
              obtain ⟨ad, cc, e3, e4, e5, _⟩ := cut_ok (m := 0) hsl hb1.2.1 hln
              simp only [Value.slice.injEq, Option.some.injEq] at e3
              obtain ⟨rfl, _, rfl⟩ := e3
              refine does_same hr (s := Instr.sliceAt t (a.eval x) (lo.map a.eval) (hi.map a.eval) none) (by simp only [execOp, ho, Option.map_none]) ?_ (e5 (some (n - l)) (fun d hd => by simpa using hd))
              rw [e2]
              simp [Instr.sliceAt, run_underlying hu, Instr.sureAddr, hb1.1, hs]
            · simp at hx
          · simp at hx
        · simp at hx
      · simp at hx
    · simp at hop
  · -- fieldAddr
    rename_i t x f ho
    split at hop
    · rename_i fs y hu hy
      split at hop
      · rename_i fd hfd
        split at hop <;> simp at hop
        rename_i n hsz
        subst hop
        simp only [exe] at hx
        split at hx
        · rename_i i k h1
          obtain ⟨rfl, rfl⟩ := ok1_inv hx
          have hv := val hy
          rw [h1] at hv
          obtain ⟨p, s, m, e1, e2⟩ := hv.ptr_inv
          refine does_same hr (s := Instr.fieldAt t (a.eval x) f) (by simp only [execOp, ho]) (v' := .pointer (some ⟨p, s + (k + fd.offset), none⟩)) ?_ (VR.ptr e1)
          rw [e2]
          simp [Instr.fieldAt, run_underlying hu, hfd, Instr.sureAddr, fieldPlace, run_sizeOf' hsz, add_eq, Nat.add_assoc]
        · simp at hx
      · simp at hop
    · simp at hop
  · -- field
    rename_i t x f ho
    split at hop
    · rename_i fs y hu hy
      split at hop
      · rename_i fd hfd
        simp only [Option.map_eq_some_iff] at hop
        obtain ⟨n, hn, rfl⟩ := hop
        simp only [exe] at hx
        split at hx
        · rename_i cs h1
          obtain ⟨u, h2, rfl, rfl⟩ := okM_inv hx
          have hv := val hy
          rw [h1] at hv
          obtain ⟨ds, h3, h4⟩ := hv.agg_inv
          obtain ⟨v', h5, h6⟩ := fldOf_ok (P := P) (w := w) hn h3 h2
          refine does_same hr (s := Instr.field t (a.eval x) f) (by simp only [execOp, ho]) ?_ h6
          rw [h4]
          simp [Instr.field, run_underlying hu, hfd, asAgg, h5]
        · simp at hx
      · simp at hop
    · simp at hop
  · -- indexAddr
    rename_i t x ix ho
    split at hop
    · rename_i n el y j hu hy hj
      simp only [Option.map_eq_some_iff] at hop
      obtain ⟨z, hsz, rfl⟩ := hop
      simp only [exe] at hx
      split at hx
      · rename_i i k kd jj h1 h2
        split at hx
        · rename_i hb
          obtain ⟨rfl, rfl⟩ := ok1_inv hx
          have hv := val hy
          have hw := val hj
          rw [h1] at hv
          rw [h2] at hw
          obtain ⟨p, s, m, e1, e2⟩ := hv.ptr_inv
          refine does_same hr (s := Instr.indexAt t (a.eval x) (a.eval ix)) (by simp only [execOp, ho]) (v' := .pointer (some ⟨p, s + (k + jj.toNat * z), none⟩)) ?_ (VR.ptr e1)
          rw [e2, hw.int_inv]
          simp [Instr.indexAt, run_underlying hu, asIntOf, Instr.sureAddr, hb, run_sizeOf' hsz, add_eq, Nat.add_assoc]
        · simp at hx
      · simp at hx
    · rename_i el y j hu hy hj
      simp only [Option.map_eq_some_iff] at hop
      obtain ⟨z, hsz, rfl⟩ := hop
      simp only [exe] at hx
      split at hx
      · rename_i i k z' n cp kd jj h1 h2
        split at hx
        · rename_i hb
          obtain ⟨rfl, hb⟩ := hb
          obtain ⟨rfl, rfl⟩ := ok1_inv hx
          have hv := val hy
          have hw := val hj
          rw [h1] at hv
          rw [h2] at hw
          rcases hv.sl_inv with ⟨p, s, m, cc, e1, _, _, _, e2⟩ | ⟨rfl, _⟩
          · refine does_same hr (s := Instr.indexAt t (a.eval x) (a.eval ix)) (by simp only [execOp, ho]) (v' := .pointer (some ⟨p, s + (k + jj.toNat * z'), none⟩)) ?_ (VR.ptr e1)
            rw [e2, hw.int_inv]
            simp [Instr.indexAt, run_underlying hu, asIntOf, hb, run_sizeOf' hsz, add_eq, Nat.add_assoc]
          · omega
        · simp at hx
      · simp at hx
    · simp at hop
  · -- index
    rename_i t x ix ho
    split at hop
    · rename_i y j hu hy hj
      simp at hop; subst hop
      simp only [exe] at hx
      split at hx
      · rename_i s kd jj h1 h2
        split at hx
        · rename_i hb
          obtain ⟨u, h3, rfl, rfl⟩ := okM_inv hx
          simp only [Option.map_eq_some_iff] at h3
          obtain ⟨b, h4, rfl⟩ := h3
          have hv := val hy
          have hw := val hj
          rw [h1] at hv
          rw [h2] at hw
          refine does_same hr (s := Instr.index t (a.eval x) (a.eval ix)) (by simp only [execOp, ho]) ?_ (VR.int _ _)
          rw [hv.str_inv, hw.int_inv]
          have h5 := index_str s jj.toNat
          rw [h4] at h5
          simp [Instr.index, run_underlying hu, asIntOf, hb, h5]
        · simp at hx
      · simp at hx
    · rename_i n el y j hu hy hj
      split at hop <;> simp at hop
      rename_i z p hsz hp
      subst hop
      simp only [exe] at hx
      split at hx
      · rename_i cs kd jj h1 h2
        split at hx
        · rename_i hb
          obtain ⟨u, h3, rfl, rfl⟩ := okM_inv hx
          have hv := val hy
          have hw := val hj
          rw [h1] at hv
          rw [h2] at hw
          obtain ⟨ds, h4, h5⟩ := hv.agg_inv
          obtain ⟨v', h6, h7⟩ := fldOf_ok (P := P) (w := w) hp h4 h3
          refine does_same hr (s := Instr.index t (a.eval x) (a.eval ix)) (by simp only [execOp, ho]) ?_ h7
          rw [h5, hw.int_inv]
          simp [Instr.index, run_underlying hu, asIntOf, hb, run_sizeOf' hsz, h6]
        · simp at hx
      · simp at hx
    · simp at hop
  · -- typeAssert
    rename_i x xt t ok ho
    split at hop
    · simp at hop
    · rename_i d z y hni hu hz hy
      simp only [Option.map_eq_some_iff] at hop
      obtain ⟨zz, hzz, rfl⟩ := hop
      have hzero : (zeroValue t).run P w = .ok z w := by
        cases hi : P.info? t with
        | none => simp [hi] at hz
        | some i => simp [hi] at hz; simp [zeroValue, typeInfo, hi, hz]
      have hzv : VR φ zz z := ofV_ok hzz
      have hv := val hy
      simp only [exe] at hx
      split at hx
      · rename_i t' v h1
        rw [h1] at hv
        obtain ⟨v', h2, h3⟩ := hv.iface_inv
        split at hx
        · rename_i ht
          subst ht
          obtain ⟨rfl, rfl⟩ := ok1_inv hx
          refine does_same hr (s := Instr.typeAssert (a.eval x) xt t' ok) (by simp only [execOp, ho]) (v' := if ok then .tuple #[v', .bool true] else v') ?_ ?_
          · rw [h3]
            cases d <;> first | (exact absurd rfl (hni _)) | simp [Instr.typeAssert, run_underlying hu]
          · cases ok
            · exact h2
            · exact VR.tup (.cons h2 (.cons (VR.bool _) .nil))
        · rename_i ht
          split at hx
          · rename_i hok
            subst hok
            obtain ⟨rfl, rfl⟩ := ok1_inv hx
            refine does_same hr (s := Instr.typeAssert (a.eval x) xt t true) (by simp only [execOp, ho]) (v' := .tuple #[z, .bool false]) ?_ (VR.tup (.cons hzv (.cons (VR.bool _) .nil)))
            rw [h3]
            cases d <;> first | (exact absurd rfl (hni _)) | simp [Instr.typeAssert, run_underlying hu, ht, hzero]
          · simp at hx
      · rename_i h1
        rw [h1] at hv
        split at hx
        · rename_i hok
          subst hok
          obtain ⟨rfl, rfl⟩ := ok1_inv hx
          refine does_same hr (s := Instr.typeAssert (a.eval x) xt t true) (by simp only [execOp, ho]) (v' := .tuple #[z, .bool false]) ?_ (VR.tup (.cons hzv (.cons (VR.bool _) .nil)))
          rw [hv.nili_inv]
          cases d <;> first | (exact absurd rfl (hni _)) | simp [Instr.typeAssert, run_underlying hu, hzero]
        · simp at hx
      · simp at hx
    · simp at hop
  · -- extract
    rename_i x ix ho
    simp only [Option.map_eq_some_iff] at hop
    obtain ⟨y, hy, rfl⟩ := hop
    simp only [exe] at hx
    split at hx
    · rename_i vs h1
      obtain ⟨u, h2, rfl, rfl⟩ := okM_inv hx
      have hv := val hy
      rw [h1] at hv
      obtain ⟨ds, h3, h4⟩ := hv.tup_inv
      obtain ⟨v', h5, h6⟩ := h3.get h2
      refine does_same hr (s := Instr.extract (a.eval x) ix) (by simp only [execOp, ho]) ?_ h6
      rw [h4]
      have h7 : ds[ix]? = some v' := by simpa using h5
      simp [Instr.extract, h7]
    · simp at hx
  · -- call
    rename_i c ho
    exact exe_call hcall hr hg he hf ho hop hx
  · -- panic
    rename_i x ho
    simp only [Option.map_eq_some_iff] at hop
    obtain ⟨y, hy, rfl⟩ := hop
    simp only [exe] at hx
    split at hx
    · rename_i t u h1
      simp at hx
      obtain ⟨rfl, rfl⟩ := hx
      have hv := val hy
      rw [h1] at hv
      obtain ⟨v', hv', e1⟩ := hv.iface_inv
      simp [execOp, ho, e1, Instr.panic, Does]
      exact ⟨φ, Step.refl hr, _, rfl, by rw [← e1]; exact hv⟩
    · simp at hx
  · simp at hop

end
end Go.Am

/- A region whose operations come in the order of the text. Conditions: the heap stands to the world, the temporaries to the values, and calls do what the machine's calls do. -/
namespace Go.Am
open Go.RowKit

section
variable {P : Program} {B : Base} {φ : Emb} {w : World} {a : Act} {o : Oper} {call : Call}

theorem does_upon {R : Ending → World → Prop} {r : Result Next} {next : Act → World → Prop} {Q : Exit → Act → World → Prop} (h : Does P R r) (hv : ∀ v w', R (.returned v) w' → next (a.put o.dst v) w')
    (hp : ∀ ch w', R (.panicked ch) w' → Q (.panic ch) a w') (ho : ∀ w', ¬ R .outgrown w') : o.upon P a next Q r := by
  cases r with
  | ok n w' =>
    cases n <;> simp only [Does] at h <;> first | exact h.elim | skip
    case value v => exact hv v w' h
    case skip => exact hv _ w' h
    case enter f args =>
      rw [Oper.upon_enter]
      refine Calls.mono h fun e w'' hr => ?_
      cases e with
      | returned v => exact hv v w'' hr
      | panicked ch => exact hp ch w'' hr
      | outgrown => exact absurd hr (ho w'')
  | halt x w' =>
    cases x <;> simp only [Does] at h <;> first | exact h.elim | skip
    exact hp _ w' h

inductive XR (φ : Emb) : AX → Exit → Prop
  | nrm : XR φ .nrm .normal
  | exit (id : Nat) : XR φ (.exit id) (.exit id)
  | ret : XR φ .ret .ret
  | pan {v v'} : VR φ v v' → XR φ (.pan v) (.panic [{ v := v', recovered := false }])

theorem getD_get {t : Array Value} {n : Nat} {b : Bool} (h : t.getD n Go.undef = .bool b) : t[n]? = some (.bool b) := by
  cases hx : t[n]? with
  | none => simp [Array.getD_eq_getD_getElem?, hx, Go.undef] at h
  | some v => simp [Array.getD_eq_getD_getElem?, hx] at h; rw [h]

theorem yielded_bool {ops : Array Oper} {t : Array Value} {j g : Nat} {b : Bool} (hd : (ops[j]?).bind (·.dst) = some g) (h : t.getD g Go.undef = .bool b) : yielded ops t j = some b := by
  simp only [yielded, hd, Option.bind_some, getD_get h]

theorem yielded_none {ops : Array Oper} {t : Array Value} {j g : Nat} (hd : (ops[j]?).bind (·.dst) = some g) (h : t.getD g Go.undef = .tuple #[]) : yielded ops t j = none := by
  simp only [yielded, hd, Option.bind_some]
  cases hx : t[g]? with
  | none => rfl
  | some v => simp [Array.getD_eq_getD_getElem?, hx] at h; rw [h]

/-- An operation that the compiler doesn't take stops the machine. -/
theorem cins_cases (P : Program) (nt : Nat) (ops : Array Oper) (o : Oper) : cins P nt ops o = ⟨none, bad, none⟩ ∨
    (o.dst.all (· < nt) = true ∧ (cins P nt ops o).dst = o.dst ∧ (cins P nt ops o).op = (cop P o).getD bad ∧
      ((o.guard = none ∧ (cins P nt ops o).guard = none) ∨ ∃ j b g, o.guard = some (j, b) ∧ (ops[j]?).bind (·.dst) = some g ∧ (cins P nt ops o).guard = some (g, b))) := by
  unfold cins
  by_cases hd : o.dst.all (· < nt) = true
  · rw [if_pos hd]
    cases hg : o.guard with
    | none => exact .inr ⟨hd, rfl, rfl, .inl ⟨rfl, rfl⟩⟩
    | some p =>
      obtain ⟨j, b⟩ := p
      cases hj : (ops[j]?).bind (·.dst) with
      | none => exact .inl (by simp [hj])
      | some g => exact .inr (by simp only [hj]; exact ⟨hd, trivial, trivial, .inr ⟨j, b, g, rfl, hj, rfl⟩⟩)
  · rw [if_neg hd]; exact .inl rfl

/-- Whether an operation is wanted. -/
theorem want_ok {ops : Array Oper} {i : AIns} {e : Env} (he : EnvR φ e a.tmps) {b : Bool} (h : want e i.guard = some b)
    (hg : (o.guard = none ∧ i.guard = none) ∨ ∃ j b g, o.guard = some (j, b) ∧ (ops[j]?).bind (·.dst) = some g ∧ i.guard = some (g, b)) : Region.wanted o (yielded ops a.tmps) = b := by
  rcases hg with ⟨h1, h2⟩ | ⟨j, wb, g, h1, hd, h2⟩
  · rw [h2] at h
    simp [want] at h; subst h
    simp [Region.wanted, h1]
  · rw [h2] at h
    simp only [want] at h
    simp only [Region.wanted, h1]
    have hv := he g
    split at h
    · rename_i b' hb
      simp at h; subst h
      rw [hb] at hv
      rw [yielded_bool hd hv.bool_inv]
      cases b' <;> cases wb <;> rfl
    · rename_i hb
      simp at h; subst h
      rw [hb] at hv
      obtain ⟨ds, h1, h2⟩ := hv.tup_inv
      have : ds = #[] := by
        have := h1.nil_inv
        apply Array.ext'
        simpa using this
      subst this
      rw [yielded_none hd h2]
      rfl
    · simp at h

theorem envR_put {ψ : Emb} {e : Env} {t : Array Value} (he : EnvR ψ e t) {d : Option Nat} (hd : d.all (· < t.size) = true) {v : AV} {v' : Value} (hv : VR ψ v v') (dfs : List Deferred) :
    EnvR ψ (putd e d v) ((Act.mk t dfs).put d v').tmps := by
  intro n
  cases d with
  | none => exact he n
  | some d =>
    have hlt : d < t.size := by simpa using hd
    simp only [putd, Act.put]
    by_cases hn : d = n
    · subst hn
      simp [Env.at, lk, Array.getD_eq_getD_getElem?, hlt]
      exact hv
    · have h1 : Env.at ((d, v) :: e) n = Env.at e n := by simp [Env.at, lk, hn]
      rw [h1]
      have h2 : (t.setIfInBounds d v').getD n Go.undef = t.getD n Go.undef := by
        simp [Array.getD_eq_getD_getElem?, Array.getElem?_setIfInBounds_ne hn]
      rw [h2]
      exact he n

theorem at_know (e : Env) (g : Option (Nat × Bool)) (n : Nat) : (know e g).at n = e.at n := by
  cases g with
  | none => rfl
  | some p =>
    obtain ⟨g, b⟩ := p
    by_cases h : g = n
    · subst h; simp [know, Env.at, lk]
    · simp [know, Env.at, lk, h]

theorem at_knowA (e : Env) (c : Arg) (n : Nat) : (knowA e c).at n = e.at n := by
  cases c with
  | c _ => rfl
  | t g =>
    by_cases h : g = n
    · subst h; simp [knowA, Env.at, lk]
    · simp [knowA, Env.at, lk, h]

theorem envR_know {φ : Emb} {e : Env} {t : Array Value} (h : EnvR φ e t) (g : Option (Nat × Bool)) : EnvR φ (know e g) t := fun n => by rw [at_know]; exact h n
theorem envR_knowA {φ : Emb} {e : Env} {t : Array Value} (h : EnvR φ e t) (c : Arg) : EnvR φ (knowA e c) t := fun n => by rw [at_knowA]; exact h n

theorem put_tmps_size (a : Act) (d : Option Nat) (v : Value) : (a.put d v).tmps.size = a.tmps.size := by
  cases d <;> simp [Act.put]

theorem put_tmps_defers (a : Act) (d : Option Nat) (v : Value) : (a.put d v).defers = a.defers := by
  cases d <;> simp [Act.put]

theorem bad_none {e : Env} {H : AH} : exe call e bad H = none := by simp [exe, bad, Arg.val]

/-- What one operation that is wanted leaves. -/
theorem ins_ok (hcall : CallOk P B call) {ops : Array Oper} {nt : Nat} {e : Env} {H H' : AH} {out : Out} (hr : Rel B φ H w) (hg : GlobR P φ) (he : EnvR φ e a.tmps) (hf : Free φ H.next H'.next)
    (hx : exe call e (cins P nt ops o).op H = some (out, H')) : Does P (Post B φ H w out H') ((execOp a.eval o).run P w) := by
  rcases cins_cases P nt ops o with h | ⟨_, _, h, _⟩
  · rw [h, bad_none] at hx; cases hx
  · rw [h] at hx
    cases hc : cop P o with
    | none => simp only [hc, Option.getD_none] at hx; rw [bad_none] at hx; cases hx
    | some op => simp only [hc, Option.getD_some] at hx; exact exe_ok hcall hr hg he hf hc hx

def CallMono (call : Call) : Prop := ∀ f args H out H', call f args H = some (out, H') → H.next ≤ H'.next

theorem store_next {H H' : AH} {i o : Nat} {vs : List AV} (h : H.store i o vs = some H') : H'.next = H.next := by
  unfold AH.store at h
  repeat' split at h
  all_goals first | (simp at h; done) | (simp at h; subst h; rfl)

theorem okM_next {H H' : AH} {v : Option AV} {out : Out} (h : okM H v = some (out, H')) : H'.next = H.next := by
  obtain ⟨_, _, _, rfl⟩ := okM_inv h; rfl
theorem ok1_next {H H' : AH} {v : AV} {out : Out} (h : ok1 H v = some (out, H')) : H'.next = H.next := by
  obtain ⟨_, rfl⟩ := ok1_inv h; rfl
theorem ok1_nextG {G H' : AH} {v : AV} {out : Out} (h : ok1 G v = some (out, H')) : H' = G := by
  obtain ⟨_, rfl⟩ := ok1_inv h; rfl

theorem aapp_next {H H' : AH} {ty z bytes : Nat} {s : AV} {new : List AV} {out : Out} (h : aapp H ty z bytes s new = some (out, H')) : H.next ≤ H'.next := by
  unfold aapp at h
  repeat' split at h
  all_goals first
    | (simp at h; done)
    | (have := ok1_nextG h; subst this; first | exact Nat.le_refl _ | exact Nat.le_succ _)

theorem exe_next (hm : CallMono call) {e : Env} {op : AOp} {H H' : AH} {out : Out} (h : exe call e op H = some (out, H')) : H.next ≤ H'.next := by
  cases op <;> simp only [exe] at h
  all_goals (repeat' split at h)
  all_goals first
    | (simp at h; done)
    | exact hm _ _ _ _ _ h
    | exact Nat.le_of_eq (okM_next h).symm
    | exact Nat.le_of_eq (ok1_next h).symm
    | (have := ok1_nextG h; subst this; first | exact Nat.le_refl _ | exact Nat.le_succ _)
    | exact aapp_next h
    | (simp only [Option.map_eq_some_iff, Prod.mk.injEq] at h; obtain ⟨H2, h1, _, rfl⟩ := h; exact Nat.le_of_eq (store_next h1).symm)
    | (obtain ⟨_, _, _, rfl⟩ := okM_inv h; exact Nat.le_refl _)
    | (simp only [Option.some.injEq, Prod.mk.injEq] at h; obtain ⟨_, rfl⟩ := h; exact Nat.le_refl _)

theorem runR_next (hm : CallMono call) : ∀ (l : List AIns) {s s' : St} {x : AX}, runR call l s = some (x, s') → s.H.next ≤ s'.H.next
  | [], s, s', x, h => by simp [runR] at h; obtain ⟨_, rfl⟩ := h; exact Nat.le_refl _
  | i :: l, s, s', x, h => by
    simp only [runR] at h
    split at h
    · cases h
    · have := runR_next hm l h; exact this
    · split at h
      · cases h
      · rename_i v H hexe
        have := runR_next hm l h
        exact Nat.le_trans (exe_next hm hexe) this
      · rename_i v H hexe
        simp at h
        obtain ⟨_, rfl⟩ := h
        exact exe_next hm hexe

/-- The operations of a region, one behind the other. -/
theorem list_ok (hcall : CallOk P B call) (hm : CallMono call) {ops : Array Oper} {nt : Nat} {Q : Exit → Act → World → Prop} : ∀ (l : List Oper) {φ : Emb} {a : Act} {w : World} {s s' : St} {x : AX}, runR call (l.map (cins P nt ops)) s = some (x, s') →
    Rel B φ s.H w → GlobR P φ → EnvR φ s.e a.tmps → nt ≤ a.tmps.size → Free φ s.H.next s'.H.next →
    (∀ ψ ex a' w', XR ψ x ex → Step B φ s.H w ψ s'.H w' → EnvR ψ s'.e a'.tmps → a'.tmps.size = a.tmps.size → a'.defers = a.defers → Q ex a' w') → wpList P ops Q l a w
  | [], φ, a, w, s, s', x, hx, hr, hg, he, hn, hf, hQ => by
    simp [runR] at hx
    obtain ⟨rfl, rfl⟩ := hx
    exact hQ φ .normal a w .nrm (Step.refl hr) he rfl rfl
  | o :: l, φ, a, w, s, s', x, hx, hr, hg, he, hn, hf, hQ => by
    simp only [List.map_cons, runR] at hx
    rcases cins_cases P nt ops o with hbad | ⟨hd, hdst, hop, hgu⟩
    · rw [hbad] at hx
      simp only [want, bad_none] at hx
      cases hx
    have hdl : o.dst.all (· < a.tmps.size) = true := by
      cases hod : o.dst with
      | none => rfl
      | some d => simp [hod] at hd ⊢; omega
    split at hx
    · cases hx
    · rename_i hw
      have h := want_ok (ops := ops) he hw hgu
      unfold wpList
      rw [if_neg (by rw [h]; simp)]
      rw [hdst] at hx
      refine list_ok hcall hm l hx hr hg (envR_put (envR_know he _) hdl VR.tupn a.defers) (by rw [put_tmps_size]; exact hn) hf fun ψ ex a' w' h1 h2 h3 h4 h5 => ?_
      exact hQ ψ ex a' w' h1 h2 h3 (by rw [h4, put_tmps_size]) (by rw [h5, put_tmps_defers])
    · rename_i hw
      have h := want_ok (ops := ops) he hw hgu
      unfold wpList
      rw [if_pos h]
      left
      split at hx
      · cases hx
      · rename_i v H hexe
        have hn1 := exe_next hm hexe
        have hn2 := runR_next hm _ hx
        have h1 := ins_ok hcall hr hg he (hf.mono (Nat.le_refl _) hn2) hexe
        unfold Oper.wp
        refine does_upon h1 ?_ ?_ ?_
        · rintro v' w' ⟨ψ, hst, v2, e1, e2⟩
          simp only [Ending.returned.injEq] at e1
          subst e1
          have hle := hst.le (hf.mono (Nat.le_refl _) hn2)
          rw [hdst] at hx
          refine list_ok hcall hm l hx hst.rel (hg.mono hle) (envR_put (envR_know (he.mono hle) _) hdl e2 a.defers) (by rw [put_tmps_size]; exact hn) (hst.free hf) fun χ ex a' w2 g1 g2 g3 g4 g5 => ?_
          exact hQ χ ex a' w2 g1 (hst.trans g2) g3 (by rw [g4, put_tmps_size]) (by rw [g5, put_tmps_defers])
        · rintro ch w' ⟨ψ, hst, v2, e1, e2⟩
          cases e1
        · rintro w' ⟨ψ, hst, v2, e1, e2⟩
          cases e1
      · rename_i v H hexe
        simp at hx
        obtain ⟨rfl, rfl⟩ := hx
        have h1 := ins_ok hcall hr hg he hf hexe
        unfold Oper.wp
        refine does_upon h1 ?_ ?_ ?_
        · rintro v' w' ⟨ψ, hst, v2, e1, e2⟩
          cases e1
        · rintro ch w' ⟨ψ, hst, v2, e1, e2⟩
          simp only [Ending.panicked.injEq] at e1
          subst e1
          exact hQ ψ _ a w' (.pan e2) hst (he.mono (hst.le hf)) rfl rfl
        · rintro w' ⟨ψ, hst, v2, e1, e2⟩
          cases e1

end
end Go.Am

/- A region that draws its order: in whatever order its operations come, they leave what the abstract machine's one walk leaves. Conditions: the heap stands to the world, the temporaries to the values, and calls do what the machine's calls do. -/
namespace Go.Am
open Go.RowKit

section
variable {P : Program} {B : Base} {call : Call}

theorem lk_flatMap_some {α : Type} {L : List α} {f : α → List (Nat × Blk)} {i : Nat} {b : Blk} (h : lk (L.flatMap f) i = some b) : ∃ r ∈ L, lk (f r) i = some b := by
  induction L with
  | nil => simp [lk] at h
  | cons r L ih =>
    rw [List.flatMap_cons, lk_append] at h
    cases hr : lk (f r) i with
    | some c => simp [hr] at h; subst h; exact ⟨r, by simp, hr⟩
    | none => simp [hr] at h; obtain ⟨q, h1, h2⟩ := ih h; exact ⟨q, by simp [h1], h2⟩

theorem lk_flatMap_of {α : Type} {L : List α} {f : α → List (Nat × Blk)} {i : Nat} {b : Blk} {r : α} (hr : r ∈ L) (hb : lk (f r) i = some b) (hu : ∀ q ∈ L, ∀ c, lk (f q) i = some c → c = b) : lk (L.flatMap f) i = some b := by
  induction L with
  | nil => simp at hr
  | cons q L ih =>
    rw [List.flatMap_cons, lk_append]
    cases hq : lk (f q) i with
    | some c => rw [hu q (by simp) c hq]; rfl
    | none =>
      rcases List.mem_cons.1 hr with rfl | hr'
      · rw [hb] at hq; cases hq
      · simpa using ih hr' fun q' hq' => hu q' (by simp [hq'])

/-- A heap that holds no more blocks of memory than one that stands to the world, each as it stands there. -/
theorem Rel.sub {φ : Emb} {H H' : AH} {w : World} (h : Rel B φ H w) (hsub : ∀ i b, H'.get i = some b → H.get i = some b) (hlive : ∀ i b, H'.get i = some b → i < H'.next) (hf : H'.floor ≤ H'.next) (hff : H.floor ≤ H'.floor) : Rel B φ H' w where
  know := h.know
  hB := h.hB
  live := hlive
  fl := hf
  blk := fun i b hb => h.blk i b (hsub i b hb)
  inj := fun i j b c p s m q t n hi hj h1 h2 h3 h4 h5 h6 => h.inj i j b c p s m q t n (hsub i b hi) (hsub j c hj) h1 h2 h3 h4 h5 (by omega)

/-- What stood to a world stands to one in which all that was there is as it was. -/
theorem Rel.grow {φ ψ : Emb} {H : AH} {w w' : World} (h : Rel B φ H w) (hle : φ.le ψ) (hsz : w.heap.size ≤ w'.heap.size) (hheap : ∀ p, p < w.heap.size → w'.heap[p]? = w.heap[p]?) : Rel B ψ H w' where
  know := h.know.keep (fun p hp => hheap p (Nat.lt_of_lt_of_le hp h.hB)) (Nat.le_trans h.hB hsz)
  hB := Nat.le_trans h.hB hsz
  live := h.live
  fl := h.fl
  blk := fun i b hb => by
    obtain ⟨p, s, m, e, br⟩ := h.blk i b hb
    refine ⟨p, s, m, hle _ _ e, br.keep hle (hheap p ?_)⟩
    cases hro : b.ro with
    | true => have := (br.ro hro).1; have := h.hB; omega
    | false => exact h.lt_heap hb hro e
  inj := fun i j b c p s m q t n hi hj hb hc e1 e2 hij hfl => by
    obtain ⟨p', s', m', e3, _⟩ := h.blk i b hi
    obtain ⟨q', t', n', e4, _⟩ := h.blk j c hj
    have e5 := hle _ _ e3
    have e6 := hle _ _ e4
    rw [e1] at e5; simp at e5; obtain ⟨rfl, rfl, rfl⟩ := e5
    rw [e2] at e6; simp at e6; obtain ⟨rfl, rfl, rfl⟩ := e6
    exact h.inj i j b c _ _ _ _ _ _ hi hj hb hc e3 e4 hij hfl

/-! ### The one walk -/

/-- What one step of the walk is. -/
inductive StepD (call : Call) (all : List DIns) (e0 : Env) (o : DIns) (j : Nat) (t t' : DSt) : Prop
  | skip : want (dEnv t.done all o.deps o.late j e0) o.ins.guard = some false → t' = { t with done := ⟨j, o.ins.dst, .tup [], []⟩ :: t.done } → StepD call all e0 o j t t'
  | pure (v : AV) (H : AH) : want (dEnv t.done all o.deps o.late j e0) o.ins.guard = some true → o.kind = 0 → exe call (dEnv t.done all o.deps o.late j e0) o.ins.op { blks := [], next := t.next, floor := t.next } = some (.ok v, H) → H.next = t.next →
      t' = { t with done := ⟨j, o.ins.dst, v, []⟩ :: t.done } → StepD call all e0 o j t t'
  | one (v : AV) (H : AH) : want (dEnv t.done all o.deps o.late j e0) o.ins.guard = some true → o.kind = 1 →
      exe call (dEnv t.done all o.deps o.late j e0) o.ins.op { blks := (t.seg.filter fun r => o.deps.contains r.j).flatMap (·.new) ++ t.base.blks, next := t.next, floor := t.next } = some (.ok v, H) →
      t' = { done := ⟨j, o.ins.dst, v, newBlks H.blks t.next⟩ :: t.done, base := t.base, seg := ⟨j, o.ins.dst, v, newBlks H.blks t.next⟩ :: t.seg, next := H.next } → StepD call all e0 o j t t'
  | two (v : AV) (H : AH) : want (dEnv t.done all o.deps o.late j e0) o.ins.guard = some true → o.kind ≠ 0 → o.kind ≠ 1 →
      exe call (dEnv t.done all o.deps o.late j e0) o.ins.op { blks := t.seg.flatMap (·.new) ++ t.base.blks, next := t.next, floor := t.base.floor } = some (.ok v, H) →
      t' = { done := ⟨j, o.ins.dst, v, []⟩ :: t.done, base := H, seg := [], next := H.next } → StepD call all e0 o j t t'

theorem stepD_cases {all : List DIns} {e0 : Env} {o : DIns} {j : Nat} {t t' : DSt} (h : stepD call all e0 o j t = some t') : StepD call all e0 o j t t' := by
  unfold stepD at h
  simp only at h
  split at h
  · cases h
  · rename_i hw
    simp at h
    exact .skip hw h.symm
  · rename_i hw
    split at h
    · rename_i hk
      split at h
      · rename_i v H hx
        split at h
        · rename_i hn
          simp at h
          exact .pure v H hw hk hx hn h.symm
        · cases h
      · cases h
    · rename_i hk0
      split at h
      · rename_i hk
        split at h
        · rename_i v H hx
          simp at h
          exact .one v H hw hk hx h.symm
        · cases h
      · rename_i hk1
        split at h
        · rename_i v H hx
          simp at h
          exact .two v H hw hk0 hk1 hx h.symm
        · cases h

theorem StepD.next_le (hm : CallMono call) {all : List DIns} {e0 : Env} {o : DIns} {j : Nat} {t t' : DSt} (h : StepD call all e0 o j t t') : t.next ≤ t'.next := by
  cases h with
  | skip _ h => subst h; exact Nat.le_refl _
  | pure v H _ _ _ _ h => subst h; exact Nat.le_refl _
  | one v H _ _ hx h => subst h; exact exe_next hm hx
  | two v H _ _ _ hx h => subst h; exact exe_next hm hx

/-- The walk, state by state. -/
theorem runD_trace {all : List DIns} {e0 : Env} : ∀ (l : List DIns) (j : Nat) (t t' : DSt), runD call all e0 l j t = some t' →
    ∃ T : Nat → DSt, T j = t ∧ T (j + l.length) = t' ∧ ∀ k o, l[k]? = some o → StepD call all e0 o (j + k) (T (j + k)) (T (j + k + 1))
  | [], j, t, t', h => by
    simp [runD] at h; subst h
    exact ⟨fun _ => t, rfl, rfl, fun k o hk => by simp at hk⟩
  | o :: l, j, t, t', h => by
    simp only [runD] at h
    split at h
    · rename_i t1 h1
      obtain ⟨T, h2, h3, h4⟩ := runD_trace l (j + 1) t1 t' h
      refine ⟨fun k => if k = j then t else T k, by simp, ?_, fun k q hk => ?_⟩
      · have : ¬ (j + (o :: l).length = j) := by simp
        simp only [this, if_false]
        rw [← h3]
        congr 1
        simp; omega
      · cases k with
        | zero =>
          simp at hk; subst hk
          have : ¬ (j + 0 + 1 = j) := by omega
          simp only [this, if_false, Nat.add_zero, if_true]
          rw [show T (j + 1) = t1 from h2]
          exact stepD_cases h1
        | succ k =>
          have e1 : ¬ (j + (k + 1) = j) := by omega
          have e2 : ¬ (j + (k + 1) + 1 = j) := by omega
          simp only [e1, e2, if_false]
          have := h4 k q (by simpa using hk)
          rwa [show j + 1 + k = j + (k + 1) by omega] at this
    · cases h

end
end Go.Am

/- A region that draws its order, continued: what is known of the machine's one walk, and what holds in the midst of whatever order. Conditions: those that each theorem names. -/
namespace Go.Am
open Go.RowKit

section
variable {P : Program} {B : Base} {call : Call}

/-- What the compiler has told of a region. -/
structure DOk (P : Program) (nt : Nat) (ops : Array Oper) (is : List DIns) : Prop where
  len : is.length = ops.size
  ins : ∀ {j : Nat} {o : Oper} {d : DIns}, ops[j]? = some o → is[j]? = some d → d.ins = cins P nt ops o
  clos : ∀ (S : Nat → Prop) {j : Nat} {o : Oper} {d : DIns}, ops[j]? = some o → is[j]? = some d → (∀ (k : Nat) (dk : DIns), S k → is[k]? = some dk → ∀ x ∈ dk.deps, S x) → (∀ e ∈ o.after.toList, Region.binds .any e = true → S e.on) → ∀ x ∈ d.deps, S x
  edge : ∀ {j : Nat} {o : Oper} {d : DIns}, ops[j]? = some o → is[j]? = some d → ∀ e ∈ o.after.toList, Region.binds .any e = true → e.on ∈ d.deps
  late : ∀ {j k : Nat} {dj dk : DIns}, is[j]? = some dj → is[k]? = some dk → (k ∈ dj.late ↔ j ∈ dk.deps)
  lt : ∀ {j : Nat} {d : DIns} {x : Nat}, is[j]? = some d → x ∈ d.deps → x < j
  tot : ∀ {j : Nat} {d : DIns} {k : Nat} {dk : DIns}, is[j]? = some d → d.kind ≠ 0 → d.kind ≠ 1 → is[k]? = some dk → k ≠ j → dk.kind ≠ 0 → k ∈ d.deps ∨ k ∈ d.late
  nod : ∀ {j k : Nat} {d dk : DIns} {t : Nat}, is[j]? = some d → is[k]? = some dk → d.ins.dst = some t → dk.ins.dst = some t → j = k

/-- The walk's states. -/
structure Tr (call : Call) (is : List DIns) (e0 : Env) (H0 : AH) (T : Nat → DSt) : Prop where
  zero : T 0 = ⟨[], H0, [], H0.next⟩
  step : ∀ k o, is[k]? = some o → StepD call is e0 o k (T k) (T (k + 1))

def wk (is : List DIns) (e0 : Env) (T : Nat → DSt) (k : Nat) (o : DIns) : Option Bool := want (dEnv (T k).done is o.deps o.late k e0) o.ins.guard
def One (is : List DIns) (e0 : Env) (T : Nat → DSt) (k : Nat) : Prop := ∃ o, is[k]? = some o ∧ wk is e0 T k o = some true ∧ o.kind = 1
def Two (is : List DIns) (e0 : Env) (T : Nat → DSt) (k : Nat) : Prop := ∃ o, is[k]? = some o ∧ wk is e0 T k o = some true ∧ o.kind ≠ 0 ∧ o.kind ≠ 1
def res (T : Nat → DSt) (k : Nat) : DRes := (T (k + 1)).done.headD default

variable {is : List DIns} {e0 : Env} {H0 : AH} {T : Nat → DSt}

theorem Tr.some_of {j : Nat} (hj : j < is.length) : ∃ o, is[j]? = some o := ⟨is[j], by simp [hj]⟩
theorem Tr.lt_of {j : Nat} {o : DIns} (h : is[j]? = some o) : j < is.length := by
  rcases Nat.lt_or_ge j is.length with h' | h'
  · exact h'
  · rw [List.getElem?_eq_none h'] at h; cases h

theorem Tr.res_cons (h : Tr call is e0 H0 T) {k : Nat} {o : DIns} (ho : is[k]? = some o) : (T (k + 1)).done = res T k :: (T k).done ∧ (res T k).j = k ∧ (res T k).dst = o.ins.dst := by
  unfold res
  cases h.step k o ho with
  | skip _ e => rw [e]; exact ⟨rfl, rfl, rfl⟩
  | pure v H _ _ _ _ e => rw [e]; exact ⟨rfl, rfl, rfl⟩
  | one v H _ _ _ e => rw [e]; exact ⟨rfl, rfl, rfl⟩
  | two v H _ _ _ _ e => rw [e]; exact ⟨rfl, rfl, rfl⟩

theorem Tr.done_mem (h : Tr call is e0 H0 T) : ∀ (j : Nat), j ≤ is.length → ∀ r, r ∈ (T j).done ↔ ∃ k, k < j ∧ r = res T k
  | 0, _, r => by simp [h.zero]
  | j + 1, hj, r => by
    obtain ⟨o, ho⟩ := Tr.some_of (is := is) (j := j) (by omega)
    rw [(h.res_cons ho).1, List.mem_cons, h.done_mem j (by omega) r]
    constructor
    · rintro (rfl | ⟨k, hk, rfl⟩)
      · exact ⟨j, by omega, rfl⟩
      · exact ⟨k, by omega, rfl⟩
    · rintro ⟨k, hk, rfl⟩
      by_cases hkj : k = j
      · subst hkj; exact .inl rfl
      · exact .inr ⟨k, by omega, rfl⟩

theorem Tr.next_mono (h : Tr call is e0 H0 T) (hm : CallMono call) : ∀ {j k : Nat}, j ≤ k → k ≤ is.length → (T j).next ≤ (T k).next := by
  intro j k hjk hk
  induction k with
  | zero => obtain rfl : j = 0 := by omega
            exact Nat.le_refl _
  | succ k ih =>
    by_cases e : j = k + 1
    · subst e; exact Nat.le_refl _
    · obtain ⟨o, ho⟩ := Tr.some_of (is := is) (j := k) (by omega)
      exact Nat.le_trans (ih (by omega) (by omega)) ((h.step k o ho).next_le hm)

/-- Between two operations that write, the base stands and the segment grows. -/
theorem Tr.seg (h : Tr call is e0 H0 T) {m : Nat} (hs : (T m).seg = []) : ∀ {j : Nat}, m ≤ j → j ≤ is.length → (∀ k, m ≤ k → k < j → ¬ Two is e0 T k) → (T j).base = (T m).base ∧ ∀ r, r ∈ (T j).seg ↔ ∃ k, m ≤ k ∧ k < j ∧ One is e0 T k ∧ r = res T k := by
  intro j hj hjn hno
  induction j with
  | zero => obtain rfl : m = 0 := by omega
            exact ⟨rfl, fun r => by rw [hs]; simp⟩
  | succ j ih =>
    by_cases e : m = j + 1
    · subst e; exact ⟨rfl, fun r => ⟨fun hr => by rw [hs] at hr; simp at hr, fun ⟨k, a, b, _⟩ => by omega⟩⟩
    · obtain ⟨h1, h2⟩ := ih (by omega) (by omega) (fun k a b => hno k a (by omega))
      obtain ⟨o, ho⟩ := Tr.some_of (is := is) (j := j) (by omega)
      have hres := h.res_cons ho
      have other : ¬ One is e0 T j → (T (j + 1)).base = (T j).base → (T (j + 1)).seg = (T j).seg → (T (j + 1)).base = (T m).base ∧ ∀ r, r ∈ (T (j + 1)).seg ↔ ∃ k, m ≤ k ∧ k < j + 1 ∧ One is e0 T k ∧ r = res T k := by
        intro hn hb hsg
        refine ⟨hb.trans h1, fun r => ?_⟩
        rw [hsg, h2 r]
        constructor
        · rintro ⟨k, a, b, c, d⟩; exact ⟨k, a, by omega, c, d⟩
        · rintro ⟨k, a, b, c, d⟩
          by_cases ek : k = j
          · subst ek; exact absurd c hn
          · exact ⟨k, a, by omega, c, d⟩
      cases hst : h.step j o ho with
      | skip hw e => exact other (fun ⟨o', ho', hw', _⟩ => by rw [ho] at ho'; simp at ho'; subst ho'; unfold wk at hw'; rw [hw] at hw'; cases hw') (by rw [e]) (by rw [e])
      | pure v H hw hk hx hn e =>
        exact other (fun ⟨o', ho', _, hk'⟩ => by rw [ho] at ho'; simp at ho'; subst ho'; omega) (by rw [e]) (by rw [e])
      | one v H hw hk hx e =>
        refine ⟨by rw [e]; exact h1, fun r => ?_⟩
        have hr0 : res T j = ⟨j, o.ins.dst, v, newBlks H.blks (T j).next⟩ := by unfold res; rw [e]; rfl
        have : (T (j + 1)).seg = res T j :: (T j).seg := by rw [hr0, e]
        rw [this, List.mem_cons, h2 r]
        constructor
        · rintro (rfl | ⟨k, a, b, c, d⟩)
          · exact ⟨j, by omega, by omega, ⟨o, ho, hw, hk⟩, rfl⟩
          · exact ⟨k, a, by omega, c, d⟩
        · rintro ⟨k, a, b, c, d⟩
          by_cases ek : k = j
          · subst ek; exact .inl d
          · exact .inr ⟨k, a, by omega, c, d⟩
      | two v H hw hk0 hk1 hx e => exact absurd ⟨o, ho, hw, hk0, hk1⟩ (hno j (by omega) (by omega))

end
end Go.Am

/- A region that draws its order, continued: what holds in the midst of whatever order, and that each next operation keeps it. Conditions: those that each theorem names. -/
namespace Go.Am
open Go.RowKit

section
variable {P : Program} {B : Base} {call : Call} {nt : Nat} {ops : Array Oper} {is : List DIns} {e0 : Env} {H0 : AH} {T : Nat → DSt}

theorem Rel.congr {φ : Emb} {H H' : AH} {w : World} (h : Rel B φ H w) (hg : ∀ i, H'.get i = H.get i) (hn : H'.next = H.next) (hf : H'.floor = H.floor) : Rel B φ H' w :=
  h.sub (fun i b hb => by rw [← hg]; exact hb) (fun i b hb => by rw [hn]; exact h.live i b (by rw [← hg]; exact hb)) (by rw [hn, hf]; exact h.fl) (by rw [hf]; exact Nat.le_refl _)

theorem Step.congr {φ ψ : Emb} {H H1 H2 : AH} {w w' : World} (h : Step B φ H w ψ H1 w') (hg : ∀ i, H2.get i = H1.get i) (hn : H2.next = H1.next) (hf : H2.floor = H1.floor) : Step B φ H w ψ H2 w' :=
  ⟨h.rel.congr hg hn hf, fun i hi => h.emb i (by rw [hn] at hi; exact hi), by rw [hn]; exact h.nxt, hf.trans h.flo, fun i hi => (hg i).trans (h.old i hi), fun i b hi hb => h.sub i b hi (by rw [← hg]; exact hb),
    h.os, h.tape, h.output, h.size, h.frame, fun p ⟨i, b, s, m, a1, a2, a3, a4⟩ => h.foot p ⟨i, b, s, m, by rw [← hf]; exact a1, by rw [← hg]; exact a2, a3, a4⟩⟩

structure Inv (call : Call) (B : Base) (is : List DIns) (e0 : Env) (H0 : AH) (T : Nat → DSt) (a0 : Act) (φ0 : Emb) (w0 : World) (S : Nat → Prop) (a : Act) (w : World) (φ : Emb) (m : Nat) (H : AH) : Prop where
  le : m ≤ is.length
  dn : ∀ (j : Nat) (d : DIns), S j → is[j]? = some d → ∀ k ∈ d.deps, S k
  sub : ∀ j, S j → j < is.length
  base1 : ∀ (k : Nat) (d : DIns), is[k]? = some d → d.kind ≠ 0 → k < m → S k
  base2 : ∀ k, m ≤ k → Two is e0 T k → ¬ S k
  seg0 : (T m).seg = []
  bnd : ∀ i b, (T m).base.get i = some b → i < (T m).next
  nb : ∀ k, S k → One is e0 T k → m ≤ k → ∀ i b, lk (res T k).new i = some b → (T k).next ≤ i ∧ i < (T (k + 1)).next
  bfl : (T m).base.floor = H0.floor
  hnext : H.next = (T is.length).next
  hfloor : H.floor = H0.floor
  get : ∀ i b, H.get i = some b ↔ ((T m).base.get i = some b ∨ ∃ k, m ≤ k ∧ S k ∧ One is e0 T k ∧ lk (res T k).new i = some b)
  step : Step B φ0 H0 w0 φ H w
  free : ∀ k, k < is.length → ¬ S k → Free φ (T k).next (T (k + 1)).next
  env1 : ∀ (k : Nat) (d : DIns) (t : Nat), S k → is[k]? = some d → d.ins.dst = some t → VR φ (res T k).v (a.tmps.getD t Go.undef)
  env2 : ∀ t, (∀ (k : Nat) (d : DIns), S k → is[k]? = some d → d.ins.dst ≠ some t) → a.tmps.getD t Go.undef = a0.tmps.getD t Go.undef
  size : a.tmps.size = a0.tmps.size
  defers : a.defers = a0.defers

theorem lk_dst_none {L : List DRes} {t : Nat} (h : lk (L.flatMap (fun r => match r.dst with | some d => [(d, r.v)] | none => [])) t = none) {r : DRes} (hr : r ∈ L) : r.dst ≠ some t := by
  induction L with
  | nil => simp at hr
  | cons q L ih =>
    rw [List.flatMap_cons, lk_append] at h
    intro hd
    rcases List.mem_cons.1 hr with rfl | hr'
    · simp [hd, lk] at h
    · refine ih ?_ hr' hd
      cases hx : lk (match q.dst with | some d => [(d, q.v)] | none => []) t with
      | none => rw [hx] at h; simpa using h
      | some _ => rw [hx] at h; simp at h

theorem lk_msk_none {L : List (DIns × Nat)} {t : Nat} (h : lk (L.flatMap (fun (q, _) => match q.ins.dst with | some d => [(d, AV.undef)] | none => [])) t = none) {d : DIns} {k : Nat} (hr : (d, k) ∈ L) : d.ins.dst ≠ some t := by
  induction L with
  | nil => simp at hr
  | cons q L ih =>
    rw [List.flatMap_cons, lk_append] at h
    intro hd
    rcases List.mem_cons.1 hr with rfl | hr'
    · simp [hd, lk] at h
    · refine ih ?_ hr' hd
      cases hx : lk (match q.1.ins.dst with | some d => [(d, AV.undef)] | none => []) t with
      | none => rw [hx] at h; simpa using h
      | some _ => rw [hx] at h; simp at h

/-- The temporaries as an operation that comes next sees them. -/
theorem Inv.envR {a0 φ0 w0 S a w φ m H} (h : Inv call B is e0 H0 T a0 φ0 w0 S a w φ m H) (D : DOk P nt ops is) (tr : Tr call is e0 H0 T) {i : Nat} {o : DIns} (ho : is[i]? = some o) (hi : ¬ S i) (hdeps : ∀ k ∈ o.deps, S k)
    (he0 : EnvR φ0 e0 a0.tmps) (hle : φ0.le φ) : EnvR φ (dEnv (T i).done is o.deps o.late i e0) a.tmps := by
  intro t
  have hin : i < is.length := Tr.lt_of ho
  unfold dEnv Env.at
  rw [List.append_assoc, lk_append]
  cases h1 : lk ((((T i).done).filter (fun r => o.deps.contains r.j)).flatMap (fun r => match r.dst with | some d => [(d, r.v)] | none => [])) t with
  | some v =>
    simp only [Option.some_or, Option.getD_some]
    have : ∃ r ∈ ((T i).done).filter (fun r => o.deps.contains r.j), r.dst = some t ∧ r.v = v := by
      clear h
      revert h1
      induction ((T i).done).filter (fun r => o.deps.contains r.j) with
      | nil => simp [lk]
      | cons r L ih =>
        intro h1
        rw [List.flatMap_cons, lk_append] at h1
        cases hd : r.dst with
        | none => simp [hd, lk] at h1; obtain ⟨q, q1, q2⟩ := ih h1; exact ⟨q, by simp [q1], q2⟩
        | some d =>
          simp only [hd, lk] at h1
          by_cases hdt : d = t
          · simp [hdt] at h1; exact ⟨r, by simp, by rw [hd, hdt], h1⟩
          · simp [hdt] at h1; obtain ⟨q, q1, q2⟩ := ih h1; exact ⟨q, by simp [q1], q2⟩
    obtain ⟨r, hr, hrd, rfl⟩ := this
    rw [List.mem_filter] at hr
    obtain ⟨k, hk, rfl⟩ := (tr.done_mem i (by omega) r).1 hr.1
    obtain ⟨ok, hok⟩ := Tr.some_of (is := is) (j := k) (by omega)
    have hres := tr.res_cons hok
    have hkd : k ∈ o.deps := by have := hr.2; rw [hres.2.1] at this; simpa using this
    exact h.env1 k ok t (hdeps k hkd) hok (by rw [← hres.2.2]; exact hrd)
  | none =>
    simp only [Option.none_or]
    rw [lk_append]
    cases h2 : lk (((is.zipIdx).filter fun (q, k) => !(o.deps.contains k) && !(o.late.contains k) && k != i).flatMap fun (q, _) => match q.ins.dst with | some d => [(d, AV.undef)] | none => []) t with
    | some v =>
      simp only [Option.some_or, Option.getD_some]
      have : v = .undef := by
        revert h2
        induction ((is.zipIdx).filter fun (q, k) => !(o.deps.contains k) && !(o.late.contains k) && k != i) with
        | nil => simp [lk]
        | cons r L ih =>
          intro h2
          rw [List.flatMap_cons, lk_append] at h2
          obtain ⟨q, k⟩ := r
          cases hd : q.ins.dst with
          | none => simp [hd, lk] at h2; exact ih h2
          | some d =>
            simp only [hd, lk] at h2
            by_cases hdt : d = t
            · simp [hdt] at h2; exact h2.symm
            · simp [hdt] at h2; exact ih h2
      subst this
      exact VR.undef _
    | none =>
      simp only [Option.none_or]
      have hno : ∀ (k : Nat) (d : DIns), S k → is[k]? = some d → d.ins.dst ≠ some t := by
        intro k d hk hd hdst
        have hki : k ≠ i := fun e => hi (e ▸ hk)
        have hkl : ¬ k ∈ o.late := fun hl => hi (h.dn k d hk hd i ((D.late ho hd).1 hl))
        by_cases hkd : k ∈ o.deps
        · have hklt := D.lt ho hkd
          have hmem : res T k ∈ ((T i).done).filter (fun r => o.deps.contains r.j) := by
            rw [List.mem_filter]
            refine ⟨(tr.done_mem i (by omega) _).2 ⟨k, hklt, rfl⟩, ?_⟩
            rw [(tr.res_cons hd).2.1]
            simpa using hkd
          have hrd := (tr.res_cons hd).2.2
          exact lk_dst_none h1 hmem (by rw [hrd]; exact hdst)
        · have hmem : (d, k) ∈ ((is.zipIdx).filter fun (q, k) => !(o.deps.contains k) && !(o.late.contains k) && k != i) := by
            rw [List.mem_filter]
            refine ⟨?_, by simp [hkd, hkl, hki]⟩
            rw [List.mem_iff_getElem?]
            exact ⟨k, by simp [List.getElem?_zipIdx, hd]⟩
          exact lk_msk_none h2 hmem hdst
      rw [h.env2 t hno]
      exact (he0 t).mono hle

end
end Go.Am

/- A region that draws its order, continued: each next operation keeps what holds in the midst. Conditions: those that each theorem names. -/
namespace Go.Am
open Go.RowKit

section
variable {P : Program} {B : Base} {call : Call} {nt : Nat} {ops : Array Oper} {is : List DIns} {e0 : Env} {H0 : AH} {T : Nat → DSt}

theorem lk_newBlks {l : List (Nat × Blk)} {n i : Nat} {b : Blk} : lk (newBlks l n) i = some b ↔ n ≤ i ∧ lk l i = some b := by
  unfold newBlks
  rw [lk_filter l (fun j => decide (n ≤ j)) i]
  by_cases h : n ≤ i <;> simp [h]

/-- The pieces of which what holds behind an operation is made. -/
theorem Inv.make {a0 φ0 w0 S a w φ m H} (h : Inv call B is e0 H0 T a0 φ0 w0 S a w φ m H) (D : DOk P nt ops is) (tr : Tr call is e0 H0 T) (hm : CallMono call) {i : Nat} {o : DIns} (ho : is[i]? = some o) (hdeps : ∀ k ∈ o.deps, S k) (hi : ¬ S i)
    {ψ : Emb} {v' : Value} {w' : World} {m' : Nat} {H' : AH} (hle : φ.le ψ) (hout : ∀ j, j < (T i).next ∨ (T (i + 1)).next ≤ j → ψ j = φ j) (hv : VR ψ (res T i).v v') (hd : o.ins.dst.all (· < a.tmps.size) = true)
    (g1 : m' ≤ is.length) (g2 : ∀ (k : Nat) (d : DIns), is[k]? = some d → d.kind ≠ 0 → k < m' → S k ∨ k = i) (g3 : ∀ k, m' ≤ k → Two is e0 T k → ¬ (S k ∨ k = i)) (g4 : (T m').seg = []) (g5 : ∀ j b, (T m').base.get j = some b → j < (T m').next)
    (g6 : ∀ k, (S k ∨ k = i) → One is e0 T k → m' ≤ k → ∀ j b, lk (res T k).new j = some b → (T k).next ≤ j ∧ j < (T (k + 1)).next) (g7 : (T m').base.floor = H0.floor) (g8 : H'.next = (T is.length).next) (g9 : H'.floor = H0.floor)
    (g10 : ∀ j b, H'.get j = some b ↔ ((T m').base.get j = some b ∨ ∃ k, m' ≤ k ∧ (S k ∨ k = i) ∧ One is e0 T k ∧ lk (res T k).new j = some b)) (g11 : Step B φ0 H0 w0 ψ H' w') :
    Inv call B is e0 H0 T a0 φ0 w0 (fun k => S k ∨ k = i) (a.put o.ins.dst v') w' ψ m' H' where
  le := g1
  dn := fun j d hj hjd k hk => by
    rcases hj with hj | rfl
    · exact .inl (h.dn j d hj hjd k hk)
    · rw [ho] at hjd; simp at hjd; subst hjd; exact .inl (hdeps k hk)
  sub := fun j hj => by
    rcases hj with hj | rfl
    · exact h.sub j hj
    · exact Tr.lt_of ho
  base1 := g2
  base2 := g3
  seg0 := g4
  bnd := g5
  nb := g6
  bfl := g7
  hnext := g8
  hfloor := g9
  get := g10
  step := g11
  free := fun k hk hns j hj1 hj2 => by
    have hki : k ≠ i := fun e => hns (.inr e)
    have hki' : ¬ S k := fun e => hns (.inl e)
    have hil := Tr.lt_of ho
    rw [hout j ?_]
    · exact h.free k hk hki' j hj1 hj2
    · rcases Nat.lt_or_gt_of_ne hki with hlt | hlt
      · have := tr.next_mono hm (j := k + 1) (k := i) (by omega) (by omega); omega
      · have := tr.next_mono hm (j := i + 1) (k := k) (by omega) (by omega); omega
  env1 := fun k d t hk hkd hdst => by
    rcases hk with hk | rfl
    · have hne : o.ins.dst ≠ some t := fun e => hi (by have := D.nod ho hkd e hdst; subst this; exact hk)
      have : (a.put o.ins.dst v').tmps.getD t Go.undef = a.tmps.getD t Go.undef := by
        cases hod : o.ins.dst with
        | none => rfl
        | some dd =>
          have : dd ≠ t := fun e => hne (by rw [hod, e])
          simp [Act.put, Array.getD_eq_getD_getElem?, Array.getElem?_setIfInBounds_ne this]
      rw [this]
      exact (h.env1 k d t hk hkd hdst).mono hle
    · rw [ho] at hkd; simp at hkd; subst hkd
      rw [hdst] at hd
      have hlt : t < a.tmps.size := by simpa using hd
      simp [hdst, Act.put, Array.getD_eq_getD_getElem?, hlt]
      exact hv
  env2 := fun t ht => by
    have hne : o.ins.dst ≠ some t := ht i o (.inr rfl) ho
    have : (a.put o.ins.dst v').tmps.getD t Go.undef = a.tmps.getD t Go.undef := by
      cases hod : o.ins.dst with
      | none => rfl
      | some dd =>
        have : dd ≠ t := fun e => hne (by rw [hod, e])
        simp [Act.put, Array.getD_eq_getD_getElem?, Array.getElem?_setIfInBounds_ne this]
    rw [this]
    exact h.env2 t fun k d hk hkd => ht k d (.inl hk) hkd
  size := by rw [put_tmps_size]; exact h.size
  defers := by rw [put_tmps_defers]; exact h.defers

/-- An operation that leaves the heap. -/
theorem Inv.same {a0 φ0 w0 S a w φ m H} (h : Inv call B is e0 H0 T a0 φ0 w0 S a w φ m H) (D : DOk P nt ops is) (tr : Tr call is e0 H0 T) (hm : CallMono call) {i : Nat} {o : DIns} (ho : is[i]? = some o) (hdeps : ∀ k ∈ o.deps, S k) (hi : ¬ S i)
    {v' : Value} {w' : World} (hv : VR φ (res T i).v v') (hd : o.ins.dst.all (· < a.tmps.size) = true) (hone : ¬ One is e0 T i) (htwo : ¬ Two is e0 T i) (hst : Step B φ0 H0 w0 φ H w') :
    Inv call B is e0 H0 T a0 φ0 w0 (fun k => S k ∨ k = i) (a.put o.ins.dst v') w' φ m H :=
  h.make D tr hm ho hdeps hi (Emb.le_refl φ) (fun _ _ => rfl) hv hd h.le (fun k d h1 h2 h3 => .inl (h.base1 k d h1 h2 h3))
    (fun k h1 h2 h3 => by rcases h3 with h3 | rfl; exact h.base2 k h1 h2 h3; exact htwo h2) h.seg0 h.bnd
    (fun k h1 h2 h3 => by rcases h1 with h1 | rfl; exact h.nb k h1 h2 h3; exact absurd h2 hone) h.bfl h.hnext h.hfloor
    (fun j b => by
      rw [h.get j b]
      constructor
      · rintro (h1 | ⟨k, a1, a2, a3, a4⟩)
        · exact .inl h1
        · exact .inr ⟨k, a1, .inl a2, a3, a4⟩
      · rintro (h1 | ⟨k, a1, a2, a3, a4⟩)
        · exact .inl h1
        · rcases a2 with a2 | rfl
          · exact .inr ⟨k, a1, a2, a3, a4⟩
          · exact absurd a3 hone) hst

/-- No operation that writes stands between the base and the next operation. -/
theorem Inv.between {a0 φ0 w0 S a w φ m H} (h : Inv call B is e0 H0 T a0 φ0 w0 S a w φ m H) (D : DOk P nt ops is) {i : Nat} {o : DIns} (ho : is[i]? = some o) (hdeps : ∀ k ∈ o.deps, S k) (hi : ¬ S i) (hk : o.kind ≠ 0) :
    m ≤ i ∧ ∀ k, m ≤ k → k < i → ¬ Two is e0 T k := by
  refine ⟨?_, fun k h1 h2 h3 => ?_⟩
  · rcases Nat.lt_or_ge i m with h' | h'
    · exact absurd (h.base1 i o ho hk h') hi
    · exact h'
  · obtain ⟨d, hd, hw, hk0, hk1⟩ := h3
    have hns := h.base2 k h1 ⟨d, hd, hw, hk0, hk1⟩
    rcases D.tot hd hk0 hk1 ho (by omega) hk with h4 | h4
    · have := D.lt hd h4; omega
    · exact hns (hdeps k ((D.late hd ho).1 h4))

end
end Go.Am

/- A region that draws its order, continued: each of its operations, whenever it comes. Conditions: those that each theorem names. -/
namespace Go.Am
open Go.RowKit

section
variable {P : Program} {B : Base} {call : Call} {nt : Nat} {ops : Array Oper} {is : List DIns} {e0 : Env} {H0 : AH} {T : Nat → DSt}

theorem lk_none_of {l : List (Nat × Blk)} {i : Nat} (h : ∀ b, lk l i ≠ some b) : lk l i = none := by
  cases hx : lk l i with
  | none => rfl
  | some b => exact absurd hx (h b)

/-- Nothing of the heap has a name that an operation yet to come will give. -/
theorem Inv.fresh {a0 φ0 w0 S a w φ m H} (h : Inv call B is e0 H0 T a0 φ0 w0 S a w φ m H) {i : Nat} (hil : i < is.length) (hi : ¬ S i) {j : Nat} (h1 : (T i).next ≤ j) (h2 : j < (T (i + 1)).next) (b : Blk) : H.get j ≠ some b := fun hb => by
  obtain ⟨p, s, mm, e, _⟩ := h.step.rel.blk j b hb
  rw [h.free i hil hi j h1 h2] at e
  cases e

/-- An operation that makes blocks. -/
theorem Inv.one {a0 φ0 w0 S a w φ m H} (h : Inv call B is e0 H0 T a0 φ0 w0 S a w φ m H) (D : DOk P nt ops is) (tr : Tr call is e0 H0 T) (hm : CallMono call) {i : Nat} {o : DIns} (ho : is[i]? = some o) (hdeps : ∀ k ∈ o.deps, S k) (hi : ¬ S i) (hk : o.kind = 1)
    (hseg : ∀ r, r ∈ (T i).seg ↔ ∃ k, m ≤ k ∧ k < i ∧ One is e0 T k ∧ r = res T k) (hbase : (T i).base = (T m).base) (hmi : m ≤ i) (hwk : wk is e0 T i o = some true) {v : AV} {H1 : AH}
    (hT : T (i + 1) = { done := ⟨i, o.ins.dst, v, newBlks H1.blks (T i).next⟩ :: (T i).done, base := (T i).base, seg := ⟨i, o.ins.dst, v, newBlks H1.blks (T i).next⟩ :: (T i).seg, next := H1.next })
    {v' : Value} {w' : World} {ψ : Emb} (hv : VR ψ v v') (hd : o.ins.dst.all (· < a.tmps.size) = true)
    (hfl0 : H0.floor ≤ H0.next) (hst : Step B φ { blks := ((T i).seg.filter fun r => o.deps.contains r.j).flatMap (·.new) ++ (T i).base.blks, next := (T i).next, floor := (T i).next } w ψ H1 w') :
    Inv call B is e0 H0 T a0 φ0 w0 (fun k => S k ∨ k = i) (a.put o.ins.dst v') w' ψ m { H with blks := (res T i).new ++ H.blks } := by
  have hil : i < is.length := Tr.lt_of ho
  have hres : res T i = ⟨i, o.ins.dst, v, newBlks H1.blks (T i).next⟩ := by unfold res; rw [hT]; rfl
  have hnx : H1.next = (T (i + 1)).next := by rw [hT]
  have hN := tr.next_mono hm (j := i + 1) (k := is.length) (by omega) (Nat.le_refl _)
  have hM := tr.next_mono hm (j := m) (k := i) hmi (by omega)
  have h0i := tr.next_mono hm (j := 0) (k := i) (by omega) (by omega)
  have hz : (T 0).next = H0.next := by rw [tr.zero]
  have hii := (tr.step i o ho).next_le hm
  have hle : φ.le ψ := hst.le (by
    show Free φ (T i).next H1.next
    rw [hnx]; exact h.free i hil hi)
  have hnew : ∀ j b, lk (res T i).new j = some b ↔ (T i).next ≤ j ∧ H1.get j = some b := fun j b => by rw [hres]; exact lk_newBlks
  have hnewlt : ∀ j b, lk (res T i).new j = some b → (T i).next ≤ j ∧ j < (T (i + 1)).next := fun j b hb => by
    obtain ⟨g1, g2⟩ := (hnew j b).1 hb
    exact ⟨g1, by rw [← hnx]; exact hst.rel.live j b g2⟩
  have hgetH : ∀ j b, ({ H with blks := (res T i).new ++ H.blks } : AH).get j = some b ↔ (lk (res T i).new j = some b ∨ H.get j = some b) := fun j b => by
    show lk ((res T i).new ++ H.blks) j = some b ↔ _
    rw [lk_append]
    cases hx : lk (res T i).new j with
    | none => simp; rfl
    | some c =>
      simp only [Option.some_or, Option.some.injEq]
      constructor
      · rintro rfl; exact .inl rfl
      · rintro (rfl | g)
        · rfl
        · obtain ⟨g1, g2⟩ := hnewlt j c hx
          exact absurd g (h.fresh hil hi g1 g2 b)
  have hframe : ∀ p, p < w.heap.size → w'.heap[p]? = w.heap[p]? := fun p hp => hst.frame p hp fun ⟨j, b, s, mm, g1, g2, g3, g4⟩ => by
    have := hst.sub j b
    have g1' : (T i).next ≤ j := g1
    -- a block of the seen heap has a name below the next one
    rcases hb : lk (((T i).seg.filter fun r => o.deps.contains r.j).flatMap (·.new)) j with _ | c
    · have : lk (T i).base.blks j = some b := by
        have g2' : lk (((T i).seg.filter fun r => o.deps.contains r.j).flatMap (·.new) ++ (T i).base.blks) j = some b := g2
        rw [lk_append, hb] at g2'; simpa using g2'
      rw [hbase] at this
      have := h.bnd j b this
      omega
    · obtain ⟨r, hr, hrb⟩ := lk_flatMap_some hb
      rw [List.mem_filter] at hr
      obtain ⟨k, k1, k2, k3, rfl⟩ := (hseg r).1 hr.1
      obtain ⟨ok, hok⟩ := Tr.some_of (is := is) (j := k) (by omega)
      have hkS : S k := hdeps k (by have := hr.2; rw [(tr.res_cons hok).2.1] at this; simpa using this)
      have := (h.nb k hkS k3 k1 j c hrb).2
      have := tr.next_mono hm (j := k + 1) (k := i) (by omega) (by omega)
      omega
  have hg := h.step.rel.grow hle hst.size hframe
  have hnewown : ∀ j b p s mm, lk (res T i).new j = some b → b.ro = false → ψ j = some (p, s, mm) → w.heap.size ≤ p := fun j b p s mm hb hro e => by
    obtain ⟨g1, g2⟩ := (hnew j b).1 hb
    rcases hst.foot p ⟨j, b, s, mm, by rw [hst.flo]; exact g1, g2, hro, e⟩ with ⟨j', b', s', mm', f1, f2, f3, f4⟩ | g
    · exfalso
      have f1' : (T i).next ≤ j' := f1
      -- as above
      have f2' : lk (((T i).seg.filter fun r => o.deps.contains r.j).flatMap (·.new) ++ (T i).base.blks) j' = some b' := f2
      rcases hb : lk (((T i).seg.filter fun r => o.deps.contains r.j).flatMap (·.new)) j' with _ | c
      · have : lk (T i).base.blks j' = some b' := by rw [lk_append, hb] at f2'; simpa using f2'
        rw [hbase] at this
        have := h.bnd j' b' this
        omega
      · obtain ⟨r, hr, hrb⟩ := lk_flatMap_some hb
        rw [List.mem_filter] at hr
        obtain ⟨k, k1, k2, k3, rfl⟩ := (hseg r).1 hr.1
        obtain ⟨ok, hok⟩ := Tr.some_of (is := is) (j := k) (by omega)
        have hkS : S k := hdeps k (by have := hr.2; rw [(tr.res_cons hok).2.1] at this; simpa using this)
        have := (h.nb k hkS k3 k1 j' c hrb).2
        have := tr.next_mono hm (j := k + 1) (k := i) (by omega) (by omega)
        omega
    · exact g
  have holdlt : ∀ j b p s mm, H.get j = some b → b.ro = false → ψ j = some (p, s, mm) → p < w.heap.size := fun j b p s mm hb hro e => by
    obtain ⟨p', s', m', e', _⟩ := h.step.rel.blk j b hb
    have := hle _ _ e'
    rw [e] at this; simp at this; obtain ⟨rfl, rfl, rfl⟩ := this
    exact h.step.rel.lt_heap hb hro e'
  have hrel : Rel B ψ { H with blks := (res T i).new ++ H.blks } w' := {
    know := hst.rel.know
    hB := hst.rel.hB
    live := fun j b hb => by
      show j < H.next
      rcases (hgetH j b).1 hb with g | g
      · have := (hnewlt j b g).2; rw [h.hnext]; omega
      · exact h.step.rel.live j b g
    fl := h.step.rel.fl
    blk := fun j b hb => by
      rcases (hgetH j b).1 hb with g | g
      · exact hst.rel.blk j b ((hnew j b).1 g).2
      · exact hg.blk j b g
    inj := fun j k b c p s mm q t n hj hk' hb hc e1 e2 hne hfl => by
      rcases (hgetH j b).1 hj with g1 | g1 <;> rcases (hgetH k c).1 hk' with g2 | g2
      · exact hst.rel.inj j k b c p s mm q t n ((hnew j b).1 g1).2 ((hnew k c).1 g2).2 hb hc e1 e2 hne (.inl (by rw [hst.flo]; exact ((hnew j b).1 g1).1))
      · have := hnewown j b p s mm g1 hb e1
        have := holdlt k c q t n g2 hc e2
        omega
      · have := hnewown k c q t n g2 hc e2
        have := holdlt j b p s mm g1 hb e1
        omega
      · exact hg.inj j k b c p s mm q t n g1 g2 hb hc e1 e2 hne hfl }
  have hone : One is e0 T i := ⟨o, ho, hwk, hk⟩
  have hntwo : ¬ Two is e0 T i := fun ⟨o', ho', _, _, g⟩ => by rw [ho] at ho'; simp at ho'; subst ho'; exact g hk
  refine h.make D tr hm ho hdeps hi hle (fun j hj => hst.emb j (by rcases hj with hj | hj; exact .inl hj; exact .inr (by rw [hnx]; exact hj))) (by rw [hres]; exact hv) hd h.le
    (fun k d h1 h2 h3 => .inl (h.base1 k d h1 h2 h3)) (fun k h1 h2 h3 => by rcases h3 with h3 | rfl; exact h.base2 k h1 h2 h3; exact hntwo h2) h.seg0 h.bnd
    (fun k h1 h2 h3 j b hb => by
      rcases h1 with h1 | rfl
      · exact h.nb k h1 h2 h3 j b hb
      · exact hnewlt j b hb) h.bfl h.hnext h.hfloor ?_ ?_
  · intro j b
    rw [hgetH j b, h.get j b]
    constructor
    · rintro (g | g | ⟨k, a1, a2, a3, a4⟩)
      · exact .inr ⟨i, hmi, .inr rfl, hone, g⟩
      · exact .inl g
      · exact .inr ⟨k, a1, .inl a2, a3, a4⟩
    · rintro (g | ⟨k, a1, a2, a3, a4⟩)
      · exact .inr (.inl g)
      · rcases a2 with a2 | rfl
        · exact .inr (.inr ⟨k, a1, a2, a3, a4⟩)
        · exact .inl a4
  · refine ⟨hrel, fun j hj => ?_, h.step.nxt, h.step.flo, fun j hj => ?_, fun j b hj hb => ?_, hst.os.trans h.step.os, hst.tape.trans h.step.tape, hst.output.trans h.step.output, Nat.le_trans h.step.size hst.size, fun p hp hn => ?_, fun p hp => ?_⟩
    · have hj' : j < H0.next ∨ H.next ≤ j := hj
      rw [h.hnext] at hj'
      rw [hst.emb j (by
        show j < (T i).next ∨ H1.next ≤ j
        omega)]
      exact h.step.emb j hj
    · rw [← h.step.old j hj]
      show lk ((res T i).new ++ H.blks) j = lk H.blks j
      rw [lk_append, lk_none_of fun b hb => by have := (hnewlt j b hb).1; omega]
      rfl
    · rcases (hgetH j b).1 hb with g | g
      · have := (hnewlt j b g).1; omega
      · exact h.step.sub j b hj g
    · have := h.step.size
      rw [hframe p (by omega)]
      exact h.step.frame p hp hn
    · obtain ⟨j, b, s, mm, f1, f2, f3, f4⟩ := hp
      rcases (hgetH j b).1 f2 with g | g
      · have := hnewown j b p s mm g f3 f4
        have := h.step.size
        exact .inr (by omega)
      · refine h.step.foot p ⟨j, b, s, mm, f1, g, f3, ?_⟩
        obtain ⟨p', s', m', e', _⟩ := h.step.rel.blk j b g
        have := hle _ _ e'
        rw [f4] at this; simp at this; obtain ⟨rfl, rfl, rfl⟩ := this
        exact e'

end
end Go.Am

/- A region that draws its order, continued: operations that write, and all operations of such a region. Conditions: those that each theorem names. -/
namespace Go.Am
open Go.RowKit

section
variable {P : Program} {B : Base} {call : Call} {nt : Nat} {ops : Array Oper} {is : List DIns} {e0 : Env} {H0 : AH} {T : Nat → DSt}

/-- The heap that an operation sees that writes is the heap. -/
theorem Inv.seen {a0 φ0 w0 S a w φ m H} (h : Inv call B is e0 H0 T a0 φ0 w0 S a w φ m H) {i : Nat} (hbase : (T i).base = (T m).base)
    (hseg : ∀ r, r ∈ (T i).seg ↔ ∃ k, m ≤ k ∧ k < i ∧ One is e0 T k ∧ r = res T k) (hS : ∀ k, m ≤ k → One is e0 T k → (k < i ↔ S k)) (j : Nat) : lk ((T i).seg.flatMap (·.new) ++ (T i).base.blks) j = H.get j := by
  have fwd : ∀ b, lk ((T i).seg.flatMap (·.new)) j = some b → H.get j = some b := fun b hb => by
    obtain ⟨r, hr, hrb⟩ := lk_flatMap_some hb
    obtain ⟨k, k1, k2, k3, rfl⟩ := (hseg r).1 hr
    exact (h.get j b).2 (.inr ⟨k, k1, (hS k k1 k3).1 k2, k3, hrb⟩)
  cases hx : H.get j with
  | none =>
    rw [lk_append, lk_none_of fun b hb => by rw [fwd b hb] at hx; cases hx]
    rw [Option.none_or]
    refine lk_none_of fun b hb => ?_
    rw [hbase] at hb
    have := (h.get j b).2 (.inl hb)
    rw [hx] at this; cases this
  | some b =>
    rw [lk_append]
    cases hy : lk ((T i).seg.flatMap (·.new)) j with
    | some c => have := fwd c hy; rw [hx] at this; simp at this; subst this; rfl
    | none =>
      rw [Option.none_or]
      rcases (h.get j b).1 hx with g | ⟨k, k1, k2, k3, k4⟩
      · rw [hbase]; exact g
      · exfalso
        have := lk_flatMap_of (L := (T i).seg) (f := (·.new)) (i := j) (b := b) ((hseg _).2 ⟨k, k1, (hS k k1 k3).2 k2, k3, rfl⟩) k4 fun q hq c hc => by
          obtain ⟨k', k1', k2', k3', rfl⟩ := (hseg q).1 hq
          have := (h.get j c).2 (.inr ⟨k', k1', (hS k' k1' k3').1 k2', k3', hc⟩)
          rw [hx] at this; simpa using this.symm
        rw [hy] at this; cases this

theorem Inv.two {a0 φ0 w0 S a w φ m H} (h : Inv call B is e0 H0 T a0 φ0 w0 S a w φ m H) (D : DOk P nt ops is) (tr : Tr call is e0 H0 T) (hm : CallMono call) {i : Nat} {o : DIns} (ho : is[i]? = some o) (hdeps : ∀ k ∈ o.deps, S k) (hi : ¬ S i) (hk0 : o.kind ≠ 0) (hk1 : o.kind ≠ 1)
    (hbase : (T i).base = (T m).base) (hmi : m ≤ i) {v : AV} {H1 : AH}
    (hT : T (i + 1) = { done := ⟨i, o.ins.dst, v, []⟩ :: (T i).done, base := H1, seg := [], next := H1.next }) (hfl0 : H0.floor ≤ H0.next)
    (hget : ∀ j, lk ((T i).seg.flatMap (·.new) ++ (T i).base.blks) j = H.get j)
    {v' : Value} {w' : World} {ψ : Emb} (hv : VR ψ v v') (hd : o.ins.dst.all (· < a.tmps.size) = true)
    (hst : Step B φ { blks := (T i).seg.flatMap (·.new) ++ (T i).base.blks, next := (T i).next, floor := (T i).base.floor } w ψ H1 w') :
    Inv call B is e0 H0 T a0 φ0 w0 (fun k => S k ∨ k = i) (a.put o.ins.dst v') w' ψ (i + 1) { H1 with next := (T is.length).next } := by
  have hil : i < is.length := Tr.lt_of ho
  have hres : res T i = ⟨i, o.ins.dst, v, []⟩ := by unfold res; rw [hT]; rfl
  have hnx : H1.next = (T (i + 1)).next := by rw [hT]
  have hN := tr.next_mono hm (j := i + 1) (k := is.length) (by omega) (Nat.le_refl _)
  have h0i := tr.next_mono hm (j := 0) (k := i) (by omega) (by omega)
  have hz : (T 0).next = H0.next := by rw [tr.zero]
  have hii := (tr.step i o ho).next_le hm
  have hle : φ.le ψ := hst.le (by
    show Free φ (T i).next H1.next
    rw [hnx]; exact h.free i hil hi)
  have hfloor : H1.floor = H0.floor := by
    rw [hst.flo]
    show (T i).base.floor = _
    rw [hbase]; exact h.bfl
  have hno : ∀ k (d : DIns), i + 1 ≤ k → is[k]? = some d → d.kind ≠ 0 → ¬ (S k ∨ k = i) := fun k d h1 h2 h3 h4 => by
    rcases h4 with h4 | h4
    · rcases D.tot ho hk0 hk1 h2 (by omega) h3 with g | g
      · have := D.lt ho g; omega
      · exact hi (h.dn k d h4 h2 i ((D.late ho h2).1 g))
    · omega
  have hfoot : ∀ p, Foot φ { blks := (T i).seg.flatMap (·.new) ++ (T i).base.blks, next := (T i).next, floor := (T i).base.floor } p → Foot φ H p := fun p ⟨j, b, s, mm, f1, f2, f3, f4⟩ => by
    refine ⟨j, b, s, mm, ?_, by rw [← hget j]; exact f2, f3, f4⟩
    rw [h.hfloor, ← h.bfl, ← hbase]
    exact f1
  refine h.make D tr hm ho hdeps hi hle (fun j hj => hst.emb j (by rcases hj with hj | hj; exact .inl hj; exact .inr (by rw [hnx]; exact hj))) (by rw [hres]; exact hv) hd (by omega) ?_ ?_ (by rw [hT]) ?_ ?_ (by rw [hT]; exact hfloor) rfl hfloor ?_ ?_
  · intro k d h1 h2 h3
    by_cases e : k = i
    · exact .inr e
    · refine .inl (hdeps k ?_)
      rcases D.tot ho hk0 hk1 h1 e h2 with g | g
      · exact g
      · have := D.lt h1 ((D.late ho h1).1 g); omega
  · rintro k h1 ⟨d, g1, g2, g3, g4⟩
    exact hno k d h1 g1 g3
  · intro j b hb
    rw [hT] at hb ⊢
    exact hst.rel.live j b hb
  · rintro k h1 ⟨d, g1, g2, g3⟩ h3
    exact absurd h1 (hno k d h3 g1 (by omega))
  · intro j b
    rw [hT]
    constructor
    · intro g; exact .inl g
    · rintro (g | ⟨k, k1, k2, ⟨d, g1, g2, g3⟩, k4⟩)
      · exact g
      · exact absurd k2 (hno k d k1 g1 (by omega))
  · refine ⟨hst.rel.sub (fun j b hb => hb) (fun j b hb => ?_) ?_ (Nat.le_refl _), fun j hj => ?_, ?_, hfloor, fun j hj => ?_, fun j b hj hb => ?_, hst.os.trans h.step.os, hst.tape.trans h.step.tape, hst.output.trans h.step.output, Nat.le_trans h.step.size hst.size, fun p hp hn => ?_, fun p hp => ?_⟩
    · have := hst.rel.live j b hb
      show j < (T is.length).next
      omega
    · show H1.floor ≤ (T is.length).next
      omega
    · have hj' : j < H0.next ∨ (T is.length).next ≤ j := hj
      rw [hst.emb j (by
        show j < (T i).next ∨ H1.next ≤ j
        omega)]
      exact h.step.emb j (by rw [h.hnext]; exact hj)
    · show H0.next ≤ (T is.length).next
      omega
    · rw [← h.step.old j hj, ← hget j]
      refine hst.old j ?_
      show j < (T i).base.floor
      rw [hbase, h.bfl]; exact hj
    · obtain ⟨c, hc, e⟩ := hst.sub j b (by show j < (T i).next; omega) hb
      obtain ⟨c', hc', e'⟩ := h.step.sub j c hj (by rw [← hget j]; exact hc)
      exact ⟨c', hc', e'.trans e⟩
    · have := h.step.size
      rw [hst.frame p (by omega) fun hf => ?_]
      · exact h.step.frame p hp hn
      · rcases h.step.foot p (hfoot p hf) with g | g
        · exact hn g
        · omega
    · obtain ⟨j, b, s, mm, f1, f2, f3, f4⟩ := hp
      rcases hst.foot p ⟨j, b, s, mm, f1, f2, f3, f4⟩ with g | g
      · exact h.step.foot p (hfoot p g)
      · have := h.step.size
        exact .inr (by omega)

/-- Whatever operation comes next. -/
theorem Inv.next (D : DOk P nt ops is) (tr : Tr call is e0 H0 T) (hm : CallMono call) (hcall : CallOk P B call) {a0 φ0 w0 S a w φ m H} (hg : GlobR P φ0) (he0 : EnvR φ0 e0 a0.tmps) (hfl0 : H0.floor ≤ H0.next) (hn : nt ≤ a0.tmps.size)
    (hf : Free φ0 H0.next (T is.length).next) (h : Inv call B is e0 H0 T a0 φ0 w0 S a w φ m H) {i : Nat} {op : Oper} (hop : ops[i]? = some op) (hi : ¬ S i) (hedge : ∀ e ∈ op.after.toList, Region.binds .any e = true → S e.on)
    {Q : Exit → Act → World → Prop} {K : Act → World → Prop} (hK : ∀ ψ a' w' m' H', Inv call B is e0 H0 T a0 φ0 w0 (fun k => S k ∨ k = i) a' w' ψ m' H' → K a' w') : wpOp P ops Q i K a w := by
  have hil : i < is.length := by rw [D.len]; exact (Array.getElem?_eq_some_iff.1 hop).1
  obtain ⟨d, hd⟩ := Tr.some_of hil
  have hdp : ∀ x ∈ d.deps, S x := D.clos S hop hd (fun k dk hk hkd x hx => h.dn k dk hk hkd x hx) hedge
  have hle : φ0.le φ := h.step.le (by rw [h.hnext]; exact hf)
  have henv := h.envR D tr hd hi hdp he0 hle
  have hg' := hg.mono hle
  have hins := D.ins hop hd
  have hHfl : H.floor ≤ (T i).next := by
    have h1 := tr.next_mono hm (j := 0) (k := i) (by omega) (by omega)
    rw [tr.zero] at h1
    have h1' : H0.next ≤ (T i).next := h1
    rw [h.hfloor]
    omega
  have hst := tr.step i d hd
  unfold wpOp
  rw [hop]
  simp only
  rcases cins_cases P nt ops op with hbad | ⟨hdl, hdst, hopn, hgu⟩
  · exfalso
    cases hst with
    | skip hw _ => rw [hins, hbad] at hw; simp [want] at hw
    | pure v H1 _ _ hx _ _ => rw [hins, hbad, bad_none] at hx; cases hx
    | one v H1 _ _ hx _ => rw [hins, hbad, bad_none] at hx; cases hx
    | two v H1 _ _ _ hx _ => rw [hins, hbad, bad_none] at hx; cases hx
  rw [← hins] at hgu
  have hdd : d.ins.dst = op.dst := by rw [hins]; exact hdst
  have hdl' : d.ins.dst.all (· < a.tmps.size) = true := by
    rw [hdd, h.size]
    cases hod : op.dst with
    | none => rfl
    | some t => simp [hod] at hdl ⊢; omega
  cases hst with
  | skip hw e =>
    rw [if_neg (by rw [want_ok (ops := ops) henv hw hgu]; simp)]
    rw [← hdd]
    refine hK φ _ _ m H (h.same D tr hm hd hdp hi ?_ hdl' ?_ ?_ h.step)
    · have : res T i = ⟨i, d.ins.dst, .tup [], []⟩ := by unfold res; rw [e]; rfl
      rw [this]; exact VR.tupn
    · rintro ⟨o', ho', hw', _⟩; rw [hd] at ho'; simp at ho'; subst ho'; unfold wk at hw'; rw [hw] at hw'; cases hw'
    · rintro ⟨o', ho', hw', _⟩; rw [hd] at ho'; simp at ho'; subst ho'; unfold wk at hw'; rw [hw] at hw'; cases hw'
  | pure v H1 hw hk hx hnx e =>
    rw [if_pos (want_ok (ops := ops) henv hw hgu)]
    left
    have hrel : Rel B φ { blks := [], next := (T i).next, floor := (T i).next } w := h.step.rel.sub (fun j b hb => by cases hb) (fun j b hb => by cases hb) (Nat.le_refl _) hHfl
    rw [hins] at hx
    have h1 := ins_ok hcall (a := a) (o := op) hrel hg' henv (by rw [hnx]; exact fun j (h1 : (T i).next ≤ j) (h2 : j < (T i).next) => by omega) hx
    unfold Oper.wp
    refine does_upon h1 ?_ ?_ ?_
    · rintro v' w' ⟨ψ, hs, v2, e1, e2⟩
      simp only [Ending.returned.injEq] at e1
      subst e1
      have hψ : ψ = φ := by
        funext j
        refine hs.emb j ?_
        show j < (T i).next ∨ H1.next ≤ j
        omega
      subst hψ
      have hframe : ∀ p, p < w.heap.size → w'.heap[p]? = w.heap[p]? := fun p hp => hs.frame p hp fun ⟨j, b, s, mm, g1, g2, g3, g4⟩ => by cases g2
      rw [← hdd]
      refine hK ψ _ _ m H (h.same D tr hm hd hdp hi ?_ hdl' ?_ ?_ ?_)
      · have : res T i = ⟨i, d.ins.dst, v, []⟩ := by unfold res; rw [e]; rfl
        rw [this]; exact e2
      · rintro ⟨o', ho', _, hk'⟩; rw [hd] at ho'; simp at ho'; subst ho'; omega
      · rintro ⟨o', ho', _, hk', _⟩; rw [hd] at ho'; simp at ho'; subst ho'; omega
      · refine ⟨h.step.rel.grow (Emb.le_refl _) hs.size hframe, h.step.emb, h.step.nxt, h.step.flo, h.step.old, h.step.sub, hs.os.trans h.step.os, hs.tape.trans h.step.tape, hs.output.trans h.step.output, Nat.le_trans h.step.size hs.size, fun p hp hnf => ?_, h.step.foot⟩
        have := h.step.size
        rw [hframe p (by omega)]
        exact h.step.frame p hp hnf
    · rintro ch w' ⟨ψ, _, v2, e1, e2⟩
      cases e1
    · rintro w' ⟨ψ, _, v2, e1, e2⟩
      cases e1
  | one v H1 hw hk hx e =>
    rw [if_pos (want_ok (ops := ops) henv hw hgu)]
    left
    obtain ⟨hmi, hno⟩ := h.between D hd hdp hi (by omega)
    obtain ⟨hbase, hseg⟩ := tr.seg h.seg0 hmi (by omega) hno
    have hM := tr.next_mono hm (j := m) (k := i) hmi (by omega)
    have hfr : Free φ (T i).next H1.next := by
      have : H1.next = (T (i + 1)).next := by rw [e]
      rw [this]; exact h.free i hil hi
    have hsub : ∀ j b, lk (((T i).seg.filter fun r => d.deps.contains r.j).flatMap (·.new) ++ (T i).base.blks) j = some b → H.get j = some b ∧ j < (T i).next := fun j b hb => by
      rw [lk_append] at hb
      cases hy : lk (((T i).seg.filter fun r => d.deps.contains r.j).flatMap (·.new)) j with
      | none =>
        rw [hy, Option.none_or, hbase] at hb
        have := h.bnd j b hb
        exact ⟨(h.get j b).2 (.inl hb), by omega⟩
      | some c =>
        rw [hy] at hb; simp at hb; subst hb
        obtain ⟨r, hr, hrb⟩ := lk_flatMap_some hy
        rw [List.mem_filter] at hr
        obtain ⟨k, k1, k2, k3, rfl⟩ := (hseg r).1 hr.1
        obtain ⟨ok, hok⟩ := Tr.some_of (is := is) (j := k) (by omega)
        have hkS : S k := hdp k (by have := hr.2; rw [(tr.res_cons hok).2.1] at this; simpa using this)
        have g1 := (h.nb k hkS k3 k1 j c hrb).2
        have g2 := tr.next_mono hm (j := k + 1) (k := i) (by omega) (by omega)
        exact ⟨(h.get j c).2 (.inr ⟨k, k1, hkS, k3, hrb⟩), by omega⟩
    have hrel : Rel B φ { blks := ((T i).seg.filter fun r => d.deps.contains r.j).flatMap (·.new) ++ (T i).base.blks, next := (T i).next, floor := (T i).next } w := h.step.rel.sub (fun j b hb => (hsub j b hb).1) (fun j b hb => (hsub j b hb).2) (Nat.le_refl _) hHfl
    rw [hins] at hx
    have h1 := ins_ok hcall (a := a) (o := op) hrel hg' henv hfr hx
    unfold Oper.wp
    refine does_upon h1 ?_ ?_ ?_
    · rintro v' w' ⟨ψ, hs, v2, e1, e2⟩
      simp only [Ending.returned.injEq] at e1
      subst e1
      rw [← hdd]
      exact hK ψ _ _ m _ (h.one D tr hm hd hdp hi hk hseg hbase hmi hw e e2 hdl' hfl0 hs)
    · rintro ch w' ⟨ψ, _, v2, e1, e2⟩
      cases e1
    · rintro w' ⟨ψ, _, v2, e1, e2⟩
      cases e1
  | two v H1 hw hk0 hk1 hx e =>
    rw [if_pos (want_ok (ops := ops) henv hw hgu)]
    left
    obtain ⟨hmi, hno⟩ := h.between D hd hdp hi hk0
    obtain ⟨hbase, hseg⟩ := tr.seg h.seg0 hmi (by omega) hno
    have hM := tr.next_mono hm (j := m) (k := i) hmi (by omega)
    have hfr : Free φ (T i).next H1.next := by
      have : H1.next = (T (i + 1)).next := by rw [e]
      rw [this]; exact h.free i hil hi
    have hget := h.seen hbase hseg fun k k1 ⟨dk, g1, g2, g3⟩ => by
      constructor
      · intro hlt
        rcases D.tot hd hk0 hk1 g1 (by omega) (by omega) with g | g
        · exact hdp k g
        · have := D.lt g1 ((D.late hd g1).1 g); omega
      · intro hS
        rcases D.tot hd hk0 hk1 g1 (fun e => hi (e ▸ hS)) (by omega) with g | g
        · exact D.lt hd g
        · exact absurd (h.dn k dk hS g1 i ((D.late hd g1).1 g)) hi
    have hlive : ∀ j b, lk ((T i).seg.flatMap (·.new) ++ (T i).base.blks) j = some b → j < (T i).next := fun j b hb => by
      rw [lk_append] at hb
      cases hy : lk ((T i).seg.flatMap (·.new)) j with
      | none =>
        rw [hy, Option.none_or, hbase] at hb
        have := h.bnd j b hb
        omega
      | some c =>
        obtain ⟨r, hr, hrb⟩ := lk_flatMap_some hy
        obtain ⟨k, k1, k2, k3, rfl⟩ := (hseg r).1 hr
        obtain ⟨dk, g1, g2, g3⟩ := k3
        have hkS : S k := by
          rcases D.tot hd hk0 hk1 g1 (by omega) (by omega) with g | g
          · exact hdp k g
          · have := D.lt g1 ((D.late hd g1).1 g); omega
        have g1 := (h.nb k hkS ⟨dk, g1, g2, g3⟩ k1 j c hrb).2
        have g2 := tr.next_mono hm (j := k + 1) (k := i) (by omega) (by omega)
        omega
    have h0i := tr.next_mono hm (j := 0) (k := i) (by omega) (by omega)
    have hz : (T 0).next = H0.next := by rw [tr.zero]
    have hrel : Rel B φ { blks := (T i).seg.flatMap (·.new) ++ (T i).base.blks, next := (T i).next, floor := (T i).base.floor } w :=
      h.step.rel.sub (fun j b hb => by rw [← hget j]; exact hb) hlive (by show (T i).base.floor ≤ (T i).next; rw [hbase, h.bfl]; omega) (by show H.floor ≤ (T i).base.floor; rw [hbase, h.bfl, h.hfloor]; exact Nat.le_refl _)
    rw [hins] at hx
    have h1 := ins_ok hcall (a := a) (o := op) hrel hg' henv hfr hx
    unfold Oper.wp
    refine does_upon h1 ?_ ?_ ?_
    · rintro v' w' ⟨ψ, hs, v2, e1, e2⟩
      simp only [Ending.returned.injEq] at e1
      subst e1
      rw [← hdd]
      exact hK ψ _ _ (i + 1) _ (h.two D tr hm hd hdp hi hk0 hk1 hbase hmi e hfl0 hget e2 hdl' hs)
    · rintro ch w' ⟨ψ, _, v2, e1, e2⟩
      cases e1
    · rintro w' ⟨ψ, _, v2, e1, e2⟩
      cases e1

end
end Go.Am

/- A region that draws its order, continued: what the compiler tells of a region is so. Conditions: the compiler's own checks. -/
namespace Go.Am
open Go.RowKit

theorem nodup_filterMap {α : Type} {f : α → Option Nat} : ∀ {l : List α}, nodup (l.filterMap f) = true → ∀ {j k : Nat} {x y : α} {t : Nat}, l[j]? = some x → l[k]? = some y → f x = some t → f y = some t → j = k
  | [], _, j, k, x, y, t, hj, _, _, _ => by simp at hj
  | z :: l, h, j, k, x, y, t, hj, hk, hx, hy => by
    have mem : ∀ {i : Nat} {u : α}, l[i]? = some u → f u = some t → t ∈ l.filterMap f := fun hi hu => List.mem_filterMap.2 ⟨_, List.mem_of_getElem? hi, hu⟩
    have hl : nodup (l.filterMap f) = true := by
      cases hz : f z with
      | none => simpa [hz] using h
      | some u => simp only [List.filterMap_cons, hz, nodup, Bool.and_eq_true] at h; exact h.2
    cases j with
    | zero =>
      cases k with
      | zero => rfl
      | succ k =>
        simp at hj hk; subst hj
        simp only [List.filterMap_cons, hx, nodup, Bool.and_eq_true, Bool.not_eq_true'] at h
        have := mem hk hy
        have h1 := h.1
        exact absurd this (by simpa using h1)
    | succ j =>
      cases k with
      | zero =>
        simp at hj hk; subst hk
        simp only [List.filterMap_cons, hy, nodup, Bool.and_eq_true, Bool.not_eq_true'] at h
        have := mem hj hx
        have h1 := h.1
        exact absurd this (by simpa using h1)
      | succ k =>
        simp at hj hk
        rw [nodup_filterMap hl hj hk hx hy]

def dsOf (o : Oper) : List Nat := (o.after.toList.filter fun e => Region.binds .any e).map (·.on)

theorem depsAll_spec : ∀ (l : List Oper) (acc : List (List Nat)), ∃ rest, depsAll l acc = acc ++ rest ∧ rest.length = l.length ∧
    ∀ (k : Nat) (o : Oper), l[k]? = some o → ∀ x, x ∈ rest.getD k [] ↔ x ∈ dsOf o ∨ ∃ y ∈ dsOf o, x ∈ (acc ++ rest.take k).getD y []
  | [], acc => ⟨[], by simp [depsAll], rfl, fun k o hk => by simp at hk⟩
  | o :: os, acc => by
    obtain ⟨rest, h1, h2, h3⟩ := depsAll_spec os (acc ++ [(dsOf o ++ (dsOf o).flatMap fun d => acc.getD d []).eraseDups])
    refine ⟨(dsOf o ++ (dsOf o).flatMap fun d => acc.getD d []).eraseDups :: rest, ?_, by simp [h2], fun k p hk x => ?_⟩
    · simp only [depsAll]
      rw [show (List.map (fun x => x.on) (List.filter (fun e => Region.binds Region.Mode.any e) o.after.toList)) = dsOf o from rfl, h1]
      simp
    · cases k with
      | zero =>
        simp at hk; subst hk
        simp [List.mem_eraseDups, List.mem_flatMap]
      | succ k =>
        have := h3 k p (by simpa using hk) x
        simpa using this

variable {P : Program} {nt : Nat} {ops : Array Oper}

theorem dins_get {j : Nat} {d : DIns} (h : (dins P nt ops)[j]? = some d) : ∃ o, ops[j]? = some o ∧ d.ins = cins P nt ops o ∧ d.deps = (depsAll ops.toList []).getD j [] ∧
    d.late = (List.range ops.size).filter (fun k => ((depsAll ops.toList []).getD k []).contains j) ∧
    (d.kind ≠ 0 → heapOp (cins P nt ops o).op = true) ∧ (heapOp (cins P nt ops o).op = false → d.kind = 0) ∧
    (d.kind ≠ 0 → d.kind ≠ 1 → ∀ k q, ops[k]? = some q → k = j ∨ heapOp (cins P nt ops q).op = false ∨ k ∈ d.deps ∨ k ∈ d.late) := by
  unfold dins at h
  simp only [List.getElem?_map, List.getElem?_zipIdx, Option.map_eq_some_iff, Prod.exists, Array.getElem?_toList] at h
  obtain ⟨i, k, ⟨i', ⟨o, ho, rfl⟩, h1⟩, rfl⟩ := h
  simp at h1
  obtain ⟨rfl, rfl⟩ := h1
  have hlt : j < ops.size := (Array.getElem?_eq_some_iff.1 ho).1
  have hheap : ∀ k q, ops[k]? = some q → ((ops.toList.map (cins P nt ops)).map fun i => heapOp i.op).getD k true = heapOp (cins P nt ops q).op := fun k q hk => by
    simp [List.getElem?_map, hk]
  refine ⟨o, ho, rfl, rfl, by simp, ?_, ?_, ?_⟩
  · simp only [hheap j o ho]
    intro h1
    cases hx : heapOp (cins P nt ops o).op with
    | true => rfl
    | false => simp [hx] at h1
  · intro hx
    simp only [hheap j o ho, hx]
    rfl
  · intro h1 h2 k q hk
    simp only [hheap j o ho] at h1 h2
    have hx : heapOp (cins P nt ops o).op = true := by
      cases hx : heapOp (cins P nt ops o).op with
      | true => rfl
      | false => simp [hx] at h1
    simp only [hx, Bool.not_true, Bool.false_eq_true, if_false] at h1 h2
    split at h2
    · rename_i htot
      rw [List.all_eq_true] at htot
      have hkl : k < ops.size := (Array.getElem?_eq_some_iff.1 hk).1
      have := htot k (by simp [hkl])
      simp only [Bool.or_eq_true, beq_iff_eq, Bool.not_eq_true', hheap k q hk, List.contains_iff_mem] at this
      rcases this with ((h' | h') | h') | h'
      · exact .inl h'
      · exact .inr (.inl h')
      · exact .inr (.inr (.inl h'))
      · exact .inr (.inr (.inr h'))
    · exact absurd rfl h2

theorem dins_length : (dins P nt ops).length = ops.size := by simp [dins]

theorem depsAll_length : (depsAll ops.toList []).length = ops.size := by
  obtain ⟨rest, h1, h2, _⟩ := depsAll_spec ops.toList []
  rw [h1]; simpa using h2

theorem dok_dins (hnd : nodup (ops.toList.filterMap (·.dst)) = true) (hlt : ((dins P nt ops).zipIdx.all fun (o, j) => o.deps.all (· < j)) = true) : DOk P nt ops (dins P nt ops) := by
  obtain ⟨rest, hr1, hr2, hr3⟩ := depsAll_spec ops.toList []
  have hD : depsAll ops.toList [] = rest := by simpa using hr1
  have lt : ∀ {j : Nat} {d : DIns} {x : Nat}, (dins P nt ops)[j]? = some d → x ∈ d.deps → x < j := fun {j d x} hd hx => by
    rw [List.all_eq_true] at hlt
    have := hlt (d, j) (by rw [List.mem_iff_getElem?]; exact ⟨j, by simp [List.getElem?_zipIdx, hd]⟩)
    rw [List.all_eq_true] at this
    simpa using this x hx
  have late : ∀ {j k : Nat} {dj dk : DIns}, (dins P nt ops)[j]? = some dj → (dins P nt ops)[k]? = some dk → (k ∈ dj.late ↔ j ∈ dk.deps) := fun {j k dj dk} hj hk => by
    obtain ⟨oj, hoj, _, _, l1, _⟩ := dins_get hj
    obtain ⟨ok, hok, _, d2, _⟩ := dins_get hk
    rw [l1, d2]
    simp only [List.mem_filter, List.mem_range, List.contains_iff_mem]
    exact ⟨fun h => h.2, fun h => ⟨(Array.getElem?_eq_some_iff.1 hok).1, h⟩⟩
  refine ⟨dins_length, ?_, ?_, ?_, late, lt, ?_, ?_⟩
  · intro j o d ho hd
    obtain ⟨o', ho', h1, _⟩ := dins_get hd
    rw [ho] at ho'; simp at ho'; subst ho'; exact h1
  · intro S j o d ho hd hclos hedge x hx
    obtain ⟨o', ho', _, h2, _⟩ := dins_get hd
    rw [ho] at ho'; simp at ho'; subst ho'
    rw [h2, hD] at hx
    have hds : ∀ y ∈ dsOf o, S y := fun y hy => by
      unfold dsOf at hy
      simp only [List.mem_map, List.mem_filter] at hy
      obtain ⟨e, ⟨he, hb⟩, rfl⟩ := hy
      exact hedge e he hb
    rcases (hr3 j o (by simpa using ho) x).1 hx with h | ⟨y, hy, hxy⟩
    · exact hds x h
    · simp only [List.nil_append] at hxy
      have hxy' : x ∈ rest.getD y [] := by
        simp only [List.getD_eq_getElem?_getD, List.getElem?_take] at hxy ⊢
        split at hxy
        · exact hxy
        · simp at hxy
      have hyl : y < ops.size := by
        rcases Nat.lt_or_ge y ops.size with h' | h'
        · exact h'
        · rw [List.getD_eq_getElem?_getD, List.getElem?_eq_none (by simp at hr2; omega)] at hxy'
          simp at hxy'
      obtain ⟨dy, hdy⟩ := Tr.some_of (is := dins P nt ops) (j := y) (by rw [dins_length]; exact hyl)
      obtain ⟨oy, _, _, d2, _⟩ := dins_get hdy
      exact hclos y dy (hds y hy) hdy x (by rw [d2, hD]; exact hxy')
  · intro j o d ho hd e he hb
    obtain ⟨o', ho', _, h2, _⟩ := dins_get hd
    rw [ho] at ho'; simp at ho'; subst ho'
    rw [h2, hD]
    refine (hr3 j o (by simpa using ho) e.on).2 (.inl ?_)
    unfold dsOf
    simp only [List.mem_map, List.mem_filter]
    exact ⟨e, ⟨he, hb⟩, rfl⟩
  · intro j d k dk hd h0 h1 hk hne hk0
    obtain ⟨oj, hoj, _, _, _, _, _, h7⟩ := dins_get hd
    obtain ⟨ok, hok, _, _, _, h5, h6, _⟩ := dins_get hk
    rcases h7 h0 h1 k ok hok with h | h | h | h
    · exact absurd h hne
    · exact absurd (h6 h) hk0
    · exact .inl h
    · exact .inr h
  · intro j k d dk t hj hk h1 h2
    obtain ⟨oj, hoj, e1, _⟩ := dins_get hj
    obtain ⟨ok, hok, e2, _⟩ := dins_get hk
    have hh : ∀ o : Oper, (cins P nt ops o).dst = some t → o.dst = some t := fun o ho => by
      rcases cins_cases P nt ops o with hbad | ⟨_, hdst, _⟩
      · rw [hbad] at ho; cases ho
      · rw [← hdst]; exact ho
    exact nodup_filterMap hnd (by simpa using hoj) (by simpa using hok) (hh oj (by rw [← e1]; exact h1)) (hh ok (by rw [← e2]; exact h2))

end Go.Am

/- A region that draws its order, at last: in whatever order, it leaves what the one walk leaves. Conditions: those that each theorem names. -/
namespace Go.Am
open Go.RowKit

section
variable {P : Program} {B : Base} {call : Call} {nt : Nat} {ops : Array Oper} {is : List DIns} {e0 : Env} {H0 : AH} {T : Nat → DSt}

theorem Inv.start (tr : Tr call is e0 H0 T) (hm : CallMono call) {a0 : Act} {φ0 : Emb} {w0 : World} (hr : Rel B φ0 H0 w0) (hf : Free φ0 H0.next (T is.length).next) :
    Inv call B is e0 H0 T a0 φ0 w0 (fun _ => False) a0 w0 φ0 0 { H0 with next := (T is.length).next } where
  le := Nat.zero_le _
  dn := fun j d h => h.elim
  sub := fun j h => h.elim
  base1 := fun k d _ _ h => absurd h (Nat.not_lt_zero _)
  base2 := fun k _ _ h => h
  seg0 := by rw [tr.zero]
  bnd := fun i b hb => by rw [tr.zero] at hb ⊢; exact hr.live i b hb
  nb := fun k h => h.elim
  bfl := by rw [tr.zero]
  hnext := rfl
  hfloor := rfl
  get := fun i b => by
    rw [tr.zero]
    constructor
    · intro h; exact .inl h
    · rintro (h | ⟨k, _, h, _⟩)
      · exact h
      · exact h.elim
  step := by
    have h1 := tr.next_mono hm (j := 0) (k := is.length) (by omega) (Nat.le_refl _)
    rw [tr.zero] at h1
    have h1' : H0.next ≤ (T is.length).next := h1
    have h2 := hr.fl
    exact ⟨hr.sub (fun i b hb => hb) (fun i b hb => by have := hr.live i b hb; show i < (T is.length).next; omega) (by show H0.floor ≤ (T is.length).next; omega) (Nat.le_refl _), fun _ _ => rfl, h1', rfl, fun _ _ => rfl,
      fun i b _ hb => ⟨b, hb, rfl⟩, rfl, rfl, rfl, Nat.le_refl _, fun _ _ _ => rfl, fun p hp => .inl hp⟩
  free := fun k hk _ => hf.mono (by have := tr.next_mono hm (j := 0) (k := k) (by omega) (by omega); rw [tr.zero] at this; exact this) (tr.next_mono hm (by omega) (Nat.le_refl _))
  env1 := fun k d t h => h.elim
  env2 := fun t _ => rfl
  size := rfl
  defers := rfl

theorem Inv.congrS {a0 φ0 w0 S S' a w φ m H} (h : Inv call B is e0 H0 T a0 φ0 w0 S a w φ m H) (e : ∀ k, S k ↔ S' k) : Inv call B is e0 H0 T a0 φ0 w0 S' a w φ m H := by
  have : S = S' := funext fun k => propext (e k)
  rw [← this]; exact h

/-- When all is done. -/
theorem Inv.last {a0 φ0 w0 S a w φ m H} (h : Inv call B is e0 H0 T a0 φ0 w0 S a w φ m H) (tr : Tr call is e0 H0 T) (hS : ∀ k, k < is.length → S k) (he0 : EnvR φ0 e0 a0.tmps) (hf : Free φ0 H0.next (T is.length).next) :
    Step B φ0 H0 w0 φ { (T is.length).base with blks := (T is.length).seg.flatMap (·.new) ++ (T is.length).base.blks, next := (T is.length).next } w ∧
    EnvR φ ((T is.length).done.flatMap (fun r => match r.dst with | some d => [(d, r.v)] | none => []) ++ e0) a.tmps := by
  have hlt : ∀ k, Two is e0 T k → k < is.length := fun k ⟨d, hd, _⟩ => Tr.lt_of hd
  obtain ⟨hbase, hseg⟩ := tr.seg h.seg0 h.le (Nat.le_refl _) fun k h1 _ h3 => h.base2 k h1 h3 (hS k (hlt k h3))
  have hget := h.seen hbase hseg fun k _ ⟨d, hd, _⟩ => ⟨fun hk => hS k hk, fun _ => Tr.lt_of hd⟩
  have hle : φ0.le φ := h.step.le (by rw [h.hnext]; exact hf)
  refine ⟨h.step.congr hget h.hnext.symm ?_, fun t => ?_⟩
  · show (T is.length).base.floor = H.floor
    rw [hbase, h.bfl, h.hfloor]
  · unfold Env.at
    rw [lk_append]
    cases h1 : lk ((T is.length).done.flatMap (fun r => match r.dst with | some d => [(d, r.v)] | none => [])) t with
    | some v =>
      simp only [Option.some_or, Option.getD_some]
      have : ∃ r ∈ (T is.length).done, r.dst = some t ∧ r.v = v := by
        clear h hbase hseg hget
        revert h1
        induction (T is.length).done with
        | nil => simp [lk]
        | cons r L ih =>
          intro h1
          rw [List.flatMap_cons, lk_append] at h1
          cases hd : r.dst with
          | none => simp [hd, lk] at h1; obtain ⟨q, q1, q2⟩ := ih h1; exact ⟨q, by simp [q1], q2⟩
          | some d =>
            simp only [hd, lk] at h1
            by_cases hdt : d = t
            · simp [hdt] at h1; exact ⟨r, by simp, by rw [hd, hdt], h1⟩
            · simp [hdt] at h1; obtain ⟨q, q1, q2⟩ := ih h1; exact ⟨q, by simp [q1], q2⟩
      obtain ⟨r, hr, hrd, rfl⟩ := this
      obtain ⟨k, hk, rfl⟩ := (tr.done_mem is.length (Nat.le_refl _) r).1 hr
      obtain ⟨ok, hok⟩ := Tr.some_of hk
      exact h.env1 k ok t (hS k hk) hok (by rw [← (tr.res_cons hok).2.2]; exact hrd)
    | none =>
      simp only [Option.none_or]
      have hno : ∀ (k : Nat) (d : DIns), S k → is[k]? = some d → d.ins.dst ≠ some t := by
        intro k d hk hd hdst
        have hmem : res T k ∈ (T is.length).done := (tr.done_mem is.length (Nat.le_refl _) _).2 ⟨k, Tr.lt_of hd, rfl⟩
        exact lk_dst_none h1 hmem (by rw [(tr.res_cons hd).2.2]; exact hdst)
      rw [h.env2 t hno]
      exact (he0 t).mono hle

/-- The operations that are not yet listed. -/
def left (l : Array Bool) : Nat := l.toList.countP (fun b => !b)

theorem left_set {l : Array Bool} {i : Nat} (h : l.getD i true = false) : left (l.setIfInBounds i true) + 1 = left l := by
  have hi : l[i]? = some false := by
    cases hx : l[i]? with
    | none => simp [Array.getD_eq_getD_getElem?, hx] at h
    | some b => simp [Array.getD_eq_getD_getElem?, hx] at h; rw [h]
  have hlt : i < l.toList.length := by simpa using (Array.getElem?_eq_some_iff.1 hi).1
  have hgi : l.toList[i] = false := by
    have := (Array.getElem?_eq_some_iff.1 hi).2
    simpa using this
  unfold left
  rw [Array.toList_setIfInBounds, List.countP_set hlt, hgi]
  have hpos : 0 < l.toList.countP (fun b => !b) := List.countP_pos_iff.2 ⟨false, by rw [← hgi]; exact List.getElem_mem hlt, rfl⟩
  simp only [Bool.not_false, Bool.not_true, if_true, Bool.false_eq_true, if_false]
  omega

theorem wpAny_inv (D : DOk P nt ops is) (tr : Tr call is e0 H0 T) (hm : CallMono call) (hcall : CallOk P B call) {a0 φ0 w0} (hg : GlobR P φ0) (he0 : EnvR φ0 e0 a0.tmps) (hfl0 : H0.floor ≤ H0.next) (hn : nt ≤ a0.tmps.size)
    (hf : Free φ0 H0.next (T is.length).next) {Q : Exit → Act → World → Prop}
    (hQ : ∀ S a w φ m H, Inv call B is e0 H0 T a0 φ0 w0 S a w φ m H → (∀ k, k < is.length → S k) → Q .normal a w) : ∀ (fuel : Nat) (listed : Array Bool) (a : Act) (w : World) (φ : Emb) (m : Nat) (H : AH),
    listed.size = ops.size → left listed ≤ fuel → Inv call B is e0 H0 T a0 φ0 w0 (fun k => listed.getD k false = true) a w φ m H → wpAny P .any ops Q fuel listed a w := by
  have all_of : ∀ (listed : Array Bool), listed.size = ops.size → Region.ready .any ops listed = [] → ∀ k, k < is.length → listed.getD k false = true := by
    intro listed hsz hr k
    induction k using Nat.strongRecOn with
    | ind k ih =>
      intro hk
      cases hx : listed.getD k false with
      | true => rfl
      | false =>
        exfalso
        have hko : k < ops.size := by rw [← D.len]; exact hk
        have hkl : k < listed.size := by omega
        have hmem : k ∈ Region.ready .any ops listed := by
          refine mem_ready.2 ⟨?_, ops[k], by simp [hko], fun e he hb => ?_⟩
          · simp [Array.getD_eq_getD_getElem?, hkl] at hx ⊢; exact hx
          · obtain ⟨d, hd⟩ := Tr.some_of hk
            have := D.edge (by simp [hko] : ops[k]? = some ops[k]) hd e (by simpa using he) hb
            have hlt := D.lt hd this
            exact ih e.on hlt (by omega)
        rw [hr] at hmem; cases hmem
  intro fuel
  induction fuel with
  | zero =>
    intro listed a w φ m H hsz hl h
    have hall : ∀ b ∈ listed.toList, b = true := fun b hb => by
      have := (List.countP_eq_zero.1 (Nat.le_zero.1 hl)) b hb
      cases b <;> simp_all
    have hlall : ∀ k, k < listed.size → listed.getD k false = true := fun k hk => by
      simp [Array.getD_eq_getD_getElem?, hk]
      exact hall _ (by simp)
    refine ⟨?_, hQ _ a w φ m H h fun k hk => hlall k (by rw [hsz, ← D.len]; exact hk)⟩
    cases hr : Region.ready .any ops listed with
    | nil => rfl
    | cons k ks =>
      exfalso
      have hmem : k ∈ Region.ready .any ops listed := by rw [hr]; simp
      obtain ⟨h0, o, ho, _⟩ := mem_ready.1 hmem
      have hko := (Array.getElem?_eq_some_iff.1 ho).1
      have := hlall k (by omega)
      have hkl : k < listed.size := by omega
      simp [Array.getD_eq_getD_getElem?, hkl] at h0 this
      rw [h0] at this; cases this
  | succ fuel ih =>
    intro listed a w φ m H hsz hl h
    refine ⟨fun hr => hQ _ a w φ m H h (all_of listed hsz hr), fun i hi => ?_⟩
    obtain ⟨h0, o, ho, hall⟩ := mem_ready.1 hi
    have hio := (Array.getElem?_eq_some_iff.1 ho).1
    have hil : i < listed.size := by omega
    refine h.next D tr hm hcall hg he0 hfl0 hn hf ho ?_ (fun e he hb => hall e (by simpa using he) hb) fun ψ a' w' m' H' h' => ?_
    · simp [Array.getD_eq_getD_getElem?, hil] at h0 ⊢; exact h0
    · refine ih _ a' w' ψ m' H' (by simpa using hsz) (by have := left_set h0; omega) (h'.congrS fun k => ?_)
      by_cases hki : k = i
      · subst hki
        simp [hil]
      · have : (listed.setIfInBounds i true).getD k false = listed.getD k false := getD_set_ne false (Ne.symm hki)
        rw [this]
        simp [hki]

theorem regd_ok (hcall : CallOk P B call) (hm : CallMono call) (hmix : P.follows .mixedOrders = true) (D : DOk P nt ops is) {id : Nat} {Q : Exit → Act → World → Prop} {φ : Emb} {a : Act} {w : World} {s s' : St} {x : AX} (hx : runDr call is s = some (x, s'))
    (hr : Rel B φ s.H w) (hg : GlobR P φ) (he : EnvR φ s.e a.tmps) (hn : nt ≤ a.tmps.size) (hf : Free φ s.H.next s'.H.next)
    (hQ : ∀ ψ ex a' w', XR ψ x ex → Step B φ s.H w ψ s'.H w' → EnvR ψ s'.e a'.tmps → a'.tmps.size = a.tmps.size → a'.defers = a.defers → Q ex a' w') : (Code.region id ops true).wp P Q a w := by
  unfold runDr at hx
  split at hx
  · rename_i t ht
    simp only [Option.some.injEq, Prod.mk.injEq] at hx
    obtain ⟨rfl, rfl⟩ := hx
    obtain ⟨T, t0, t1, t2⟩ := runD_trace is 0 _ t ht
    have tr : Tr call is s.e s.H T := ⟨t0, fun k o hk => by have := t2 k o hk; simpa using this⟩
    simp only [Nat.zero_add] at t1
    subst t1
    have hal : Alike w { w with drawn := w.drawn + 1 } := ⟨rfl, rfl, rfl, rfl⟩
    refine wp_region_any hmix ?_
    refine wpAny_inv D tr hm hcall hg he hr.fl hn hf (fun S a' w' ψ m H hinv hall => ?_) ops.size _ a _ φ 0 _ (by simp) ?_ ((Inv.start tr hm (hr.alike hal) hf).congrS fun k => ?_)
    · obtain ⟨h1, h2⟩ := hinv.last tr hall he hf
      exact hQ ψ .normal a' w' .nrm ((Step.alike hr hal).trans h1) h2 hinv.size hinv.defers
    · unfold left
      exact Nat.le_trans List.countP_le_length (by simp)
    · constructor
      · exact False.elim
      · intro h
        simp only [Array.getD_eq_getD_getElem?, Array.getElem?_replicate] at h
        split at h <;> simp at h
  · cases hx

theorem runDr_next (hm : CallMono call) {s s' : St} {x : AX} (h : runDr call is s = some (x, s')) : s.H.next ≤ s'.H.next := by
  unfold runDr at h
  split at h
  · rename_i t ht
    simp only [Option.some.injEq, Prod.mk.injEq] at h
    obtain ⟨rfl, rfl⟩ := h
    obtain ⟨T, t0, t1, t2⟩ := runD_trace is 0 _ t ht
    have tr : Tr call is s.e s.H T := ⟨t0, fun k o hk => by have := t2 k o hk; simpa using this⟩
    have := tr.next_mono hm (j := 0) (k := is.length) (by omega) (Nat.le_refl _)
    rw [tr.zero] at this
    simp only [Nat.zero_add] at t1
    rw [← t1]
    exact this
  · cases h

end
end Go.Am

/- The abstract machine's run of compiled code is what the model's run of the code comes to. Conditions: the heap stands to the world, the temporaries to the values, and calls do what the machine's calls do. -/
namespace Go.Am
open Go.RowKit

/-- A region's operations and what the compiler made of them. -/
inductive CRL (P : Program) (nt : Nat) (ops : Array Oper) : List Oper → ACode → Prop
  | reg (l : List Oper) : CRL P nt ops l (.reg (l.map (cins P nt ops)))
  | seq {l m : List Oper} {x y : ACode} : CRL P nt ops l x → CRL P nt ops m y → CRL P nt ops (l ++ m) (.seq x y)
  | trim {l : List Oper} {x : ACode} (t : List Nat) : CRL P nt ops l x → CRL P nt ops l (.seq x (.trim t))

theorem pieces_crl (P : Program) (nt : Nat) (ops : Array Oper) : ∀ (h : List (Nat × List Nat)) (l : List Oper), CRL P nt ops l (pieces (l.map (cins P nt ops)) h)
  | [], l => .reg l
  | [(_, t)], l => .trim t (.reg l)
  | (n, t) :: h1 :: h2, l => by
    have h3 := CRL.seq (CRL.trim t (CRL.reg (P := P) (nt := nt) (ops := ops) (l.take n))) (pieces_crl P nt ops (h1 :: h2) (l.drop n))
    rw [List.take_append_drop] at h3
    simp only [pieces, ← List.map_take, ← List.map_drop]
    exact h3

/-- Code and what the compiler made of it, whatever its loops keep. -/
inductive CR (P : Program) (nt : Nat) : Code → ACode → Prop
  | skip : CR P nt .skip .skip
  | label (l : Nat) : CR P nt (.label l) .skip
  | reg (id : Nat) (ops : Array Oper) : CR P nt (.region id ops false) (.reg (ops.toList.map (cins P nt ops)))
  | regd (id : Nat) (ops : Array Oper) (is : List DIns) : DOk P nt ops is → CR P nt (.region id ops true) (.regd is)
  | regl (id : Nat) (ops : Array Oper) {x : ACode} : CRL P nt ops ops.toList x → CR P nt (.region id ops false) x
  | bad (c : Code) : CR P nt c (.reg [⟨none, bad, none⟩])
  | stuck (c : Code) (h : List (Nat × List Nat)) : CR P nt c (pieces [⟨none, bad, none⟩] h)
  | seq {a b : Code} {x y : ACode} : CR P nt a x → CR P nt b y → CR P nt (.seq a b) (.seq x y)
  | cond {c : Operand} {z : Arg} {a b : Code} {x y : ACode} : ofOp P c = some z → CR P nt a x → CR P nt b y → CR P nt (.cond c a b) (.cond z x y)
  | block {id : Nat} {b : Code} {y : ACode} : CR P nt b y → CR P nt (.block id b) (.block id y)
  | loop {b : Code} {y : ACode} (l : Option (List Nat)) : CR P nt b y → CR P nt (.loop b) (.loop l y)
  | exit (id : Nat) : CR P nt (.exit id) (.exit id)
  | ret : CR P nt .ret .ret
  | trim {c : Code} {x : ACode} (l : List Nat) : CR P nt c x → CR P nt c (.seq x (.trim l))

theorem comp_cr (P : Program) (nt : Nat) : ∀ c : Code, CR P nt c (comp P nt c)
  | .skip => .skip
  | .label l => .label l
  | .region id ops false => .reg id ops
  | .region id ops true => by
    simp only [comp]
    split
    · rename_i h
      simp only [Bool.and_eq_true] at h
      exact .regd id ops _ (dok_dins h.1 h.2)
    · exact .bad _
  | .seq a b => .seq (comp_cr P nt a) (comp_cr P nt b)
  | .cond c a b => by
    simp only [comp]
    split
    · rename_i x hx
      exact .cond hx (comp_cr P nt a) (comp_cr P nt b)
    · exact .bad _
  | .block id b => .block (comp_cr P nt b)
  | .loop b => .loop none (comp_cr P nt b)
  | .exit id => .exit id
  | .ret => .ret
  | .rangeFunc _ _ _ _ => .bad _
  | .scope _ => .bad _
  | .goto _ => .bad _
  | .refuse _ => .bad _

theorem pieces_bad {P : Program} {nt : Nat} (c : Code) : ∀ h : List (Nat × List Nat), CR P nt c (pieces [⟨none, bad, none⟩] h)
  | h => .stuck c h

theorem relive_bad {P : Program} {nt : Nat} (c : Code) (l : List Hint) : CR P nt c (relive (.reg [⟨none, bad, none⟩]) l).1 := by
  cases l with
  | nil => exact .bad c
  | cons h l => cases h with
    | no => exact .bad c
    | keep _ => exact .bad c
    | cut h => exact pieces_bad c h

theorem relive_cr {P : Program} {nt : Nat} : ∀ (c : Code) (l : List Hint), CR P nt c (relive (comp P nt c) l).1
  | .skip, l => by cases l with | nil => exact .skip | cons h l => cases h <;> exact .skip
  | .label k, l => by cases l with | nil => exact .label k | cons h l => cases h <;> exact .label k
  | .exit k, l => by cases l with | nil => exact .exit k | cons h l => cases h <;> exact .exit k
  | .ret, l => by cases l with | nil => exact .ret | cons h l => cases h <;> exact .ret
  | .seq a b, l => .seq (relive_cr a l) (relive_cr b _)
  | .block id b, l => .block (relive_cr b l)
  | .loop b, l => by
    cases l with
    | nil => exact .loop none (comp_cr P nt b)
    | cons h l => cases h with
      | no => exact .loop none (relive_cr b l)
      | keep x => exact .loop (some x) (relive_cr b l)
      | cut _ => exact .loop none (comp_cr P nt b)
  | .cond c a b, l => by
    simp only [comp]
    split
    · rename_i x hx
      exact .cond hx (relive_cr a l) (relive_cr b _)
    · exact relive_bad _ l
  | .region id ops false, l => by
    cases l with
    | nil => exact .reg id ops
    | cons h l => cases h with
      | no => exact .reg id ops
      | keep _ => exact .reg id ops
      | cut h => exact .regl id ops (pieces_crl P nt ops h ops.toList)
  | .region id ops true, l => by
    simp only [comp]
    split
    · rename_i h
      simp only [Bool.and_eq_true] at h
      have D := dok_dins (P := P) (nt := nt) h.1 h.2
      cases l with
      | nil => exact .regd id ops _ D
      | cons h l => cases h with
        | no => exact .regd id ops _ D
        | keep x => exact .trim x (.regd id ops _ D)
        | cut _ => exact .regd id ops _ D
    · exact relive_bad _ l
  | .rangeFunc a b c d, l => relive_bad _ l
  | .scope b, l => relive_bad _ l
  | .goto k, l => relive_bad _ l
  | .refuse w, l => relive_bad _ l
section
variable {P : Program} {B : Base} {call : Call} {nt : Nat}

theorem iter_next {body : St → Option (AX × St)} {live : Option (List Nat)} (hb : ∀ s x s', body s = some (x, s') → s.H.next ≤ s'.H.next) : ∀ (n : Nat) {s s' : St} {x : AX}, iter body live n s = some (x, s') → s.H.next ≤ s'.H.next
  | 0, s, s', x, h => by cases h
  | n + 1, s, s', x, h => by
    simp only [iter] at h
    split at h
    · rename_i s1 h1
      have a := hb _ _ _ h1
      exact Nat.le_trans a (iter_next hb n h)
    · have a := hb _ _ _ h
      exact a

theorem run_next (hm : CallMono call) (lf : Nat) : ∀ (d : ACode) {s s' : St} {x : AX}, run call lf d s = some (x, s') → s.H.next ≤ s'.H.next
  | .skip, s, s', x, h => by simp [run] at h; obtain ⟨_, rfl⟩ := h; exact Nat.le_refl _
  | .exit _, s, s', x, h => by simp [run] at h; obtain ⟨_, rfl⟩ := h; exact Nat.le_refl _
  | .ret, s, s', x, h => by simp [run] at h; obtain ⟨_, rfl⟩ := h; exact Nat.le_refl _
  | .trim _, s, s', x, h => by simp [run] at h; obtain ⟨_, rfl⟩ := h; exact Nat.le_refl _
  | .reg is, s, s', x, h => runR_next hm is h
  | .regd is, s, s', x, h => runDr_next hm h
  | .seq a b, s, s', x, h => by
    simp only [run] at h
    split at h
    · rename_i s1 h1
      exact Nat.le_trans (run_next hm lf a h1) (run_next hm lf b h)
    · exact run_next hm lf a h
  | .cond c a b, s, s', x, h => by
    simp only [run] at h
    split at h
    · split at h
      · have := run_next hm lf a h; exact this
      · have := run_next hm lf b h; exact this
    · cases h
  | .block id b, s, s', x, h => by
    simp only [run] at h
    split at h
    · rename_i id' s1 h1
      split at h <;> (simp only [Option.some.injEq, Prod.mk.injEq] at h; obtain ⟨_, rfl⟩ := h; exact run_next hm lf b h1)
    · exact run_next hm lf b h
  | .loop live b, s, s', x, h => by
    simp only [run] at h
    exact iter_next (fun s x s' h => run_next hm lf b h) lf h

theorem lk_keep (l : List Nat) (e : Env) (n : Nat) : lk (l.map fun t => (t, e.at t)) n = some (e.at n) ∨ lk (l.map fun t => (t, e.at t)) n = none := by
  induction l with
  | nil => exact .inr rfl
  | cons t l ih =>
    simp only [List.map_cons, lk]
    by_cases h : t = n
    · subst h; simp
    · simp only [h, if_false]; exact ih

theorem envR_keep {φ : Emb} {e : Env} {t : Array Value} (h : EnvR φ e t) (live : Option (List Nat)) : EnvR φ (keep e live) t := by
  cases live with
  | none => exact h
  | some l =>
    intro n
    show VR φ ((lk (l.map fun t => (t, e.at t)) n).getD .undef) _
    rcases lk_keep l e n with h1 | h1
    · rw [h1]; exact h n
    · rw [h1]; exact VR.undef _

theorem XR.nrm_inv {φ : Emb} {e : Exit} (h : XR φ .nrm e) : e = .normal := by cases h; rfl

theorem wpList_append {ops : Array Oper} {Q : Exit → Act → World → Prop} {m : List Oper} : ∀ (l : List Oper) {a : Act} {w : World}, wpList P ops (Exit.then (wpList P ops Q m) Q) l a w → wpList P ops Q (l ++ m) a w
  | [], a, w, h => h
  | o :: l, a, w, h => by
    simp only [List.cons_append]
    unfold wpList at h ⊢
    split
    · rename_i hw
      rw [if_pos hw] at h
      rcases h with h | ⟨h1, a2, w2, h2⟩
      · left
        have h3 := Oper.wp_mono (K' := wpList P ops Q (l ++ m)) (fun a w h => wpList_append l h) h
        unfold Oper.wp at h3 ⊢
        generalize (execOp a.eval o).run P w = r at *
        cases r with
        | ok n w' =>
          cases n <;> simp only [Oper.upon] at h3 ⊢ <;> first
            | exact h3
            | exact Calls.mono h3 (fun e w'' he => by cases e <;> exact he)
        | halt x w' => cases x <;> simp only [Oper.upon] at h3 ⊢ <;> exact h3
      · exact .inr ⟨h1, a2, w2, h2⟩
    · rename_i hw
      rw [if_neg hw] at h
      exact wpList_append l h

theorem pieces_ok (hcall : CallOk P B call) (hm : CallMono call) (lf : Nat) {ops : Array Oper} {l : List Oper} {d : ACode} (h : CRL P nt ops l d) : ∀ {s s' : St} {x : AX} {φ : Emb} {a : Act} {w : World} {Q : Exit → Act → World → Prop}, run call lf d s = some (x, s') →
    Rel B φ s.H w → GlobR P φ → EnvR φ s.e a.tmps → nt ≤ a.tmps.size → Free φ s.H.next s'.H.next →
    (∀ ψ ex a' w', XR ψ x ex → Step B φ s.H w ψ s'.H w' → EnvR ψ s'.e a'.tmps → a'.tmps.size = a.tmps.size → a'.defers = a.defers → Q ex a' w') → wpList P ops Q l a w := by
  induction h with
  | reg l =>
    intro s s' x φ a w Q hx hr hg he hn hf hQ
    exact list_ok hcall hm l hx hr hg he hn hf hQ
  | trim t h ih =>
    intro s s' x φ a w Q hx hr hg he hn hf hQ
    simp only [run] at hx
    split at hx
    · rename_i s1 hx1
      simp only [Option.some.injEq, Prod.mk.injEq] at hx
      obtain ⟨rfl, rfl⟩ := hx
      refine ih hx1 hr hg he hn hf fun ψ ex a' w' q1 q2 q3 q4 q5 => ?_
      exact hQ ψ ex a' w' q1 q2 (envR_keep q3 (some t)) q4 q5
    · exact ih hx hr hg he hn hf hQ
  | seq h1 h2 ih1 ih2 =>
    intro s s' x φ a w Q hx hr hg he hn hf hQ
    simp only [run] at hx
    split at hx
    · rename_i s1 hx1
      have n1 := run_next hm lf _ hx1
      have n2 := run_next hm lf _ hx
      refine wpList_append _ (ih1 hx1 hr hg he hn (hf.mono (Nat.le_refl _) n2) fun ψ ex a' w' q1 q2 q3 q4 q5 => ?_)
      obtain rfl := q1.nrm_inv
      have hle := q2.le (hf.mono (Nat.le_refl _) n2)
      exact ih2 hx q2.rel (hg.mono hle) q3 (by rw [q4]; exact hn) (q2.free hf) fun χ ex a2 w2 r1 r2 r3 r4 r5 => hQ χ ex a2 w2 r1 (q2.trans r2) r3 (by rw [r4, q4]) (by rw [r5, q5])
    · rename_i hno
      refine wpList_append _ (ih1 hx hr hg he hn hf fun ψ ex a' w' q1 q2 q3 q4 q5 => ?_)
      have := hQ ψ ex a' w' q1 q2 q3 q4 q5
      cases q1 with
      | nrm => exact absurd hx (hno _)
      | exit id => exact this
      | ret => exact this
      | pan _ => exact this

theorem pieces_stuck (lf : Nat) : ∀ (h : List (Nat × List Nat)) {s : St} {r : AX × St}, ¬ run call lf (pieces [⟨none, bad, none⟩] h) s = some r := by
  have nil : ∀ (h : List (Nat × List Nat)), True := fun _ => trivial
  have one : ∀ {s : St}, runR call [⟨none, bad, none⟩] s = none := fun {s} => by simp [runR, want, bad_none]
  intro h
  induction h with
  | nil => intro s r hr; simp [pieces, run, one] at hr
  | cons p l ih =>
    obtain ⟨n, t⟩ := p
    intro s r hr
    cases l with
    | nil => simp [pieces, run, one] at hr
    | cons q l =>
      cases n with
      | zero =>
        simp only [pieces, List.take_zero, List.drop_zero, run, runR] at hr
        exact ih hr
      | succ n => simp [pieces, run, one] at hr

theorem run_ok (hcall : CallOk P B call) (hm : CallMono call) (hmix : P.follows .mixedOrders = true) (lf : Nat) {c : Code} {d : ACode} (h : CR P nt c d) : ∀ {s s' : St} {x : AX} {φ : Emb} {a : Act} {w : World} {Q : Exit → Act → World → Prop}, run call lf d s = some (x, s') →
    Rel B φ s.H w → GlobR P φ → EnvR φ s.e a.tmps → nt ≤ a.tmps.size → Free φ s.H.next s'.H.next →
    (∀ ψ ex a' w', XR ψ x ex → Step B φ s.H w ψ s'.H w' → EnvR ψ s'.e a'.tmps → a'.tmps.size = a.tmps.size → a'.defers = a.defers → Q ex a' w') → c.wp P Q a w := by
  induction h with
  | skip =>
    intro s s' x φ a w Q hx hr hg he hn hf hQ
    simp [run] at hx; obtain ⟨rfl, rfl⟩ := hx
    exact wp_skip (hQ φ _ a w .nrm (Step.refl hr) he rfl rfl)
  | label k =>
    intro s s' x φ a w Q hx hr hg he hn hf hQ
    simp [run] at hx; obtain ⟨rfl, rfl⟩ := hx
    exact wp_label (hQ φ _ a w .nrm (Step.refl hr) he rfl rfl)
  | exit id =>
    intro s s' x φ a w Q hx hr hg he hn hf hQ
    simp [run] at hx; obtain ⟨rfl, rfl⟩ := hx
    exact wp_exit (hQ φ _ a w (.exit id) (Step.refl hr) he rfl rfl)
  | ret =>
    intro s s' x φ a w Q hx hr hg he hn hf hQ
    simp [run] at hx; obtain ⟨rfl, rfl⟩ := hx
    exact wp_ret (hQ φ _ a w .ret (Step.refl hr) he rfl rfl)
  | reg id ops =>
    intro s s' x φ a w Q hx hr hg he hn hf hQ
    exact wp_region_list (list_ok hcall hm ops.toList hx hr hg he hn hf hQ)
  | regd id ops is D =>
    intro s s' x φ a w Q hx hr hg he hn hf hQ
    exact regd_ok hcall hm hmix D hx hr hg he hn hf hQ
  | regl id ops h =>
    intro s s' x φ a w Q hx hr hg he hn hf hQ
    exact wp_region_list (pieces_ok hcall hm lf h hx hr hg he hn hf hQ)
  | stuck c h =>
    intro s s' x φ a w Q hx hr hg he hn hf hQ
    exact absurd hx (pieces_stuck lf h)
  | bad c =>
    intro s s' x φ a w Q hx hr hg he hn hf hQ
    simp [run, runR, want, bad_none] at hx
  | trim l h ih =>
    intro s s' x φ a w Q hx hr hg he hn hf hQ
    simp only [run] at hx
    split at hx
    · rename_i s1 hx1
      simp only [Option.some.injEq, Prod.mk.injEq] at hx
      obtain ⟨rfl, rfl⟩ := hx
      refine ih hx1 hr hg he hn hf fun ψ ex a' w' q1 q2 q3 q4 q5 => ?_
      exact hQ ψ ex a' w' q1 q2 (envR_keep q3 (some l)) q4 q5
    · exact ih hx hr hg he hn hf hQ
  | seq h1 h2 ih1 ih2 =>
    intro s s' x φ a w Q hx hr hg he hn hf hQ
    simp only [run] at hx
    split at hx
    · rename_i s1 hx1
      have n1 := run_next hm lf _ hx1
      have n2 := run_next hm lf _ hx
      refine wp_seq (ih1 hx1 hr hg he hn (hf.mono (Nat.le_refl _) n2) fun ψ ex a' w' q1 q2 q3 q4 q5 => ?_)
      obtain rfl := q1.nrm_inv
      have hle := q2.le (hf.mono (Nat.le_refl _) n2)
      exact ih2 hx q2.rel (hg.mono hle) q3 (by rw [q4]; exact hn) (q2.free hf) fun χ ex a2 w2 r1 r2 r3 r4 r5 => hQ χ ex a2 w2 r1 (q2.trans r2) r3 (by rw [r4, q4]) (by rw [r5, q5])
    · rename_i hno
      refine wp_seq (ih1 hx hr hg he hn hf fun ψ ex a' w' q1 q2 q3 q4 q5 => ?_)
      have := hQ ψ ex a' w' q1 q2 q3 q4 q5
      cases q1 with
      | nrm => exact absurd hx (hno _)
      | exit id => exact this
      | ret => exact this
      | pan _ => exact this
  | cond hc h1 h2 ih1 ih2 =>
    intro s s' x φ a w Q hx hr hg he hn hf hQ
    simp only [run] at hx
    split at hx
    · rename_i t ht
      have := ofOp_ok (a := a) hg he hc
      rw [ht] at this
      have hv := this.bool_inv
      cases t with
      | true => exact wp_cond hv (ih1 (s := { s with e := knowA s.e _ }) (by simpa using hx) hr hg (envR_knowA he _) hn hf hQ)
      | false => exact wp_cond hv (ih2 (s := { s with e := knowA s.e _ }) (by simpa using hx) hr hg (envR_knowA he _) hn hf hQ)
    · cases hx
  | block h1 ih =>
    intro s s' x φ a w Q hx hr hg he hn hf hQ
    rename_i id b y
    simp only [run] at hx
    split at hx
    · rename_i id' s1 h2
      by_cases hid : id' = id
      · rw [if_pos hid] at hx
        simp only [Option.some.injEq, Prod.mk.injEq] at hx
        obtain ⟨rfl, rfl⟩ := hx
        refine wp_block (ih h2 hr hg he hn hf fun ψ ex a' w' q1 q2 q3 q4 q5 => ?_)
        cases q1
        simp only [Exit.inBlock, hid, if_true]
        exact hQ ψ _ a' w' .nrm q2 q3 q4 q5
      · rw [if_neg hid] at hx
        simp only [Option.some.injEq, Prod.mk.injEq] at hx
        obtain ⟨rfl, rfl⟩ := hx
        refine wp_block (ih h2 hr hg he hn hf fun ψ ex a' w' q1 q2 q3 q4 q5 => ?_)
        cases q1
        simp only [Exit.inBlock, hid, if_false]
        exact hQ ψ _ a' w' (.exit id') q2 q3 q4 q5
    · rename_i hno
      refine wp_block (ih hx hr hg he hn hf fun ψ ex a' w' q1 q2 q3 q4 q5 => ?_)
      have := hQ ψ ex a' w' q1 q2 q3 q4 q5
      cases q1 with
      | nrm => exact this
      | exit id => exact absurd hx (hno _ _)
      | ret => exact this
      | pan _ => exact this
  | loop live h1 ih =>
    intro s s' x φ a w Q hx hr hg he hn hf hQ
    rename_i b y
    simp only [run] at hx
    refine wp_loop_rounds lf ?_
    have key : ∀ (n : Nat) {s s' : St} {x : AX} {φ : Emb} {a : Act} {w : World}, iter (run call lf y) live n s = some (x, s') → Rel B φ s.H w → GlobR P φ → EnvR φ s.e a.tmps → nt ≤ a.tmps.size → Free φ s.H.next s'.H.next →
        (∀ ψ ex a' w', XR ψ x ex → Step B φ s.H w ψ s'.H w' → EnvR ψ s'.e a'.tmps → a'.tmps.size = a.tmps.size → a'.defers = a.defers → Q ex a' w') → Code.rounds P b Q n a w := by
      intro n
      induction n with
      | zero => intro s s' x φ a w hx; cases hx
      | succ n ihn =>
        intro s s' x φ a w hx hr hg he hn hf hQ
        simp only [iter] at hx
        rw [rounds_succ]
        split at hx
        · rename_i s1 hx1
          have n1 : s.H.next ≤ s1.H.next := run_next (s := { s with e := keep s.e live }) hm lf _ hx1
          have n2 := iter_next (fun s x s' h => run_next hm lf _ h) n hx
          refine ih hx1 hr hg (envR_keep he live) hn (hf.mono (Nat.le_refl _) n2) fun ψ ex a' w' q1 q2 q3 q4 q5 => ?_
          obtain rfl := q1.nrm_inv
          have hle := q2.le (hf.mono (Nat.le_refl _) n2)
          exact ihn hx q2.rel (hg.mono hle) q3 (by rw [q4]; exact hn) (q2.free hf) fun χ ex a2 w2 r1 r2 r3 r4 r5 => hQ χ ex a2 w2 r1 (q2.trans r2) r3 (by rw [r4, q4]) (by rw [r5, q5])
        · rename_i hno
          refine ih hx hr hg (envR_keep he live) hn hf fun ψ ex a' w' q1 q2 q3 q4 q5 => ?_
          have := hQ ψ ex a' w' q1 q2 q3 q4 q5
          cases q1 with
          | nrm => exact absurd hx (hno _)
          | exit id => exact this
          | ret => exact this
          | pan _ => exact this
    exact key lf hx hr hg he hn hf hQ

end
end Go.Am

/- The abstract machine's calls are the model's calls. Conditions: the machine's table was compiled from the program's functions; its rows for functions without a text do what those do. -/
namespace Go.Am
open Go.RowKit

theorem lk_number : ∀ (l : List AV) (k n : Nat), lk (number l k) n = if k ≤ n then l[n - k]? else none
  | [], k, n => by simp [number, lk]
  | v :: l, k, n => by
    simp only [number, lk]
    by_cases h : k = n
    · subst h; simp
    · rw [if_neg h, lk_number l (k + 1) n]
      by_cases h1 : k + 1 ≤ n
      · rw [if_pos h1, if_pos (by omega)]
        have : n - k = (n - (k + 1)) + 1 := by omega
        rw [this, List.getElem?_cons_succ]
      · rw [if_neg h1, if_neg (by omega)]

theorem envR_args {φ : Emb} {args : List AV} {vs : List Value} (h : VRs φ args vs) (m : Nat) : EnvR φ (number args 0) (vs.toArray ++ Array.replicate m Go.undef) := by
  intro n
  unfold Env.at
  rw [lk_number]
  simp only [Nat.zero_le, if_true, Nat.sub_zero]
  cases hx : args[n]? with
  | none => exact VR.undef _
  | some a =>
    obtain ⟨v, h1, h2⟩ := h.get hx
    have hlt : n < vs.length := by
      rcases Nat.lt_or_ge n vs.length with h' | h'
      · exact h'
      · rw [List.getElem?_eq_none h'] at h1; cases h1
    have : (vs.toArray ++ Array.replicate m Go.undef).getD n Go.undef = v := by
      rw [Array.getD_eq_getD_getElem?, Array.getElem?_append_left (by simpa using hlt)]
      simp [h1]
    rw [this]
    exact h2

section
variable {P : Program} {B : Base}

def resRun (t : Array Value) : ResultVar → Sem Value
  | .tmp t' => pure (t.getD t' Go.undef)
  | .cell a ty => do loadVar ty (← asAddr (t.getD a Go.undef))

theorem results_eq (fn : Func) (t : Array Value) : results fn t = (do let vs ← fn.results.mapM (resRun t); pure (if h : vs.size = 1 then vs[0] else .tuple vs)) := by
  unfold results
  have : (fun r => match r with | .tmp t' => pure (t.getD t' Go.undef) | .cell a ty => do loadVar ty (← asAddr (t.getD a Go.undef)) : ResultVar → Sem Value) = resRun t := by
    funext r
    cases r <;> rfl
  rw [← this]
  rfl

theorem resOf_ok {φ : Emb} {H : AH} {w : World} {e : Env} {t : Array Value} (hr : Rel B φ H w) (he : EnvR φ e t) {r : ResultVar} {q : ARes} (hq : cres P r = some q) {v : AV} (hv : resOf e H q = some v) :
    ∃ v', (resRun t r).run P w = .ok v' w ∧ VR φ v v' := by
  cases r with
  | tmp t' =>
    simp [cres] at hq; subst hq
    simp [resOf] at hv; subst hv
    exact ⟨_, by simp [resRun], he t'⟩
  | cell a ty =>
    simp only [cres] at hq
    split at hq
    · rename_i hp
      simp at hq; subst hq
      simp only [resOf] at hv
      split at hv
      · rename_i i o hat
        split at hv
        · rename_i b hb
          have hx := he a
          rw [hat] at hx
          obtain ⟨p, s, m, e1, e2⟩ := hx.ptr_inv
          obtain ⟨p', s', m', e', br⟩ := hr.blk i b hb
          rw [e1] at e'; simp at e'; obtain ⟨rfl, rfl, rfl⟩ := e'
          obtain ⟨v', h1, h2⟩ := br.cell o v hv
          refine ⟨v', ?_, h2⟩
          simp [resRun, e2, asAddr, run_loadVar1 hp h1]
        · cases hv
      · cases hv
    · rename_i n hp
      simp at hq; subst hq
      simp only [resOf] at hv
      split at hv
      · rename_i i o hat
        simp only [Option.map_eq_some_iff] at hv
        obtain ⟨cs, hc, rfl⟩ := hv
        have hx := he a
        rw [hat] at hx
        obtain ⟨p, s, m, e1, e2⟩ := hx.ptr_inv
        obtain ⟨hl, ds, h1, h2⟩ := cellsAt_ok hr hc e1
        have hdl := h1.length
        refine ⟨.agg ds.toArray, ?_, VR.agg (by simpa using h1)⟩
        simp [resRun, e2, asAddr, run_loadVarn (P := P) (t := ty) (w := w) (p := p) (q := s + o) ds (by rw [hp]; simp; omega) h2]
      · cases hv
    · cases hq

theorem resAll_ok {φ : Emb} {H : AH} {w : World} {e : Env} {t : Array Value} (hr : Rel B φ H w) (he : EnvR φ e t) : ∀ {rs : List ResultVar} {qs : List ARes} {vs : List AV}, cress P rs = some qs → resAll e H qs = some vs →
    ∃ vs', (rs.mapM (resRun t)).run P w = .ok vs' w ∧ VRs φ vs vs'
  | [], qs, vs, hq, hv => by
    simp [cress] at hq; subst hq
    simp [resAll] at hv; subst hv
    exact ⟨[], by simp, .nil⟩
  | r :: rs, qs, vs, hq, hv => by
    simp only [cress] at hq
    split at hq
    · rename_i q qs' h1 h2
      simp at hq; subst hq
      simp only [resAll] at hv
      split at hv
      · rename_i v vs1 h3 h4
        simp at hv; subst hv
        obtain ⟨v', a1, a2⟩ := resOf_ok hr he h1 h3
        obtain ⟨vs', b1, b2⟩ := resAll_ok hr he h2 h4
        exact ⟨v' :: vs', by rw [List.mapM_cons, Sem.run_bind, a1, Result.andThen_ok, Sem.run_bind, b1, Result.andThen_ok, Sem.run_pure], .cons a2 b2⟩
      · cases hv
    · cases hq

def packV (us : List Value) : Value := if h : us.toArray.size = 1 then us.toArray[0] else .tuple us.toArray

theorem pack_ok {φ : Emb} {vs : List AV} {us : List Value} (h : VRs φ vs us) : VR φ (pack vs) (packV us) := by
  have hl := h.length
  unfold packV
  match vs, us, h, hl with
  | [], [], h, _ => exact VR.tup (ds := #[]) .nil
  | [v], [v'], h, _ => exact h
  | a :: b :: l, x :: y :: l', h, _ =>
    rw [dif_neg (by simp)]
    exact VR.tup (by simpa using h)

theorem results_ok {φ : Emb} {H : AH} {w : World} {e : Env} {t : Array Value} (hr : Rel B φ H w) (he : EnvR φ e t) {fn : Func} {qs : List ARes} {vs : List AV} (hq : cress P fn.results.toList = some qs) (hv : resAll e H qs = some vs) :
    ∃ us, (results fn t).run P w = .ok (packV us) w ∧ VRs φ vs us := by
  obtain ⟨vs', h1, h2⟩ := resAll_ok hr he hq hv
  have hm : (fn.results.mapM (resRun t)).run P w = .ok vs'.toArray w := by
    rw [Array.mapM_eq_mapM_toList]
    simp only [Sem.run_map, h1, Result.andThen_ok]
  refine ⟨vs', ?_, h2⟩
  rw [results_eq, Sem.run_bind, hm]
  simp only [Result.andThen_ok, Sem.run_pure]
  rfl

def TabOk (P : Program) (M : Tab) : Prop := ∀ f fn, M f = some fn → ∃ F, P.funcs[f]? = some F ∧ ((∃ l v, cfunL P F l v = some fn) ∨ ∃ l m, cfunD P F l m = some fn)

theorem tabOk_nil (P : Program) : TabOk P (lk []) := fun f fn h => by cases h
theorem tabOk_one {P : Program} {i : Nat} {fn : AFun} {l : List (Nat × AFun)} {F : Func} (hF : P.funcs[i]? = some F) (hc : (∃ h v, cfunL P F h v = some fn) ∨ ∃ h m, cfunD P F h m = some fn) (hl : TabOk P (lk l)) : TabOk P (lk ((i, fn) :: l)) := fun f fn' hf => by
  by_cases e : i = f
  · subst e
    simp [lk] at hf
    subst hf
    exact ⟨F, hF, hc⟩
  · simp [lk, e] at hf
    exact hl f fn' hf
theorem tabOk_cons {P : Program} {i : Nat} {fn : AFun} {l : List (Nat × AFun)} {F : Func} (hF : P.funcs[i]? = some F) (h : List Hint) (v : Bool) (hc : cfunL P F h v = some fn) (hl : TabOk P (lk l)) : TabOk P (lk ((i, fn) :: l)) := tabOk_one hF (.inl ⟨h, v, hc⟩) hl
theorem tabOk_consD {P : Program} {i : Nat} {fn : AFun} {l : List (Nat × AFun)} {F : Func} (hF : P.funcs[i]? = some F) (h m : List Hint) (hc : cfunD P F h m = some fn) (hl : TabOk P (lk l)) : TabOk P (lk ((i, fn) :: l)) := tabOk_one hF (.inr ⟨h, m, hc⟩) hl

structure ExtOk (P : Program) (B : Base) (X : Ext) : Prop where
  next : ∀ f g args H out H', X f = some g → g args H = some (out, H') → H.next ≤ H'.next
  does : ∀ (f : FuncId) (g : List AV → AH → Option (Out × AH)) (args : List AV) (H : AH) (out : Out) (H' : AH) (φ : Emb) (vs : List Value) (w : World), X f = some g → g args H = some (out, H') → Rel B φ H w → VRs φ args vs → GlobR P φ → Free φ H.next H'.next →
    Does P (Post B φ H w out H') ((callFunc f vs.toArray).run P w)

end
end Go.Am

/- Calls by value: the callee sees its slices' cells in a heap of its own. Conditions: those that each theorem names. -/
namespace Go.Am
open Go.RowKit

theorem flat1_any {φ ψ : Emb} {v : AV} {v' : Value} (hf : flat1 v = true) (h : VR φ v v') : VR ψ v v' := by
  cases h <;> first
    | (simp [flat1] at hf; done)
    | (constructor; exact .nil)
    | skip
  case func cs ds f h1 h2 =>
    cases cs with
    | nil =>
      have := h1.nil_inv
      refine VRs.func f ?_ .nil
      rw [this]; exact .nil
    | cons _ _ => simp [flat1] at hf

theorem flats_any {φ ψ : Emb} : ∀ {vs : List AV} {us : List Value}, vs.all flat1 = true → VRs φ vs us → VRs ψ vs us
  | [], us, _, h => by rw [h.nil_inv]; exact .nil
  | v :: vs, us, hf, h => by
    obtain ⟨u, us', rfl, h1, h2⟩ := h.cons_inv
    simp only [List.all_cons, Bool.and_eq_true] at hf
    exact .cons (flat1_any hf.1 h1) (flats_any hf.2 h2)

theorem flat2_any {φ ψ : Emb} {v : AV} {v' : Value} (hf : flat2 v = true) (h : VR φ v v') : VR ψ v v' := by
  cases v with
  | agg cs =>
    obtain ⟨ds, h1, rfl⟩ := h.agg_inv
    exact VR.agg (flats_any hf h1)
  | _ => exact flat1_any hf h

theorem flat2s_any {φ ψ : Emb} : ∀ {vs : List AV} {us : List Value}, vs.all flat2 = true → VRs φ vs us → VRs ψ vs us
  | [], us, _, h => by rw [h.nil_inv]; exact .nil
  | v :: vs, us, hf, h => by
    obtain ⟨u, us', rfl, h1, h2⟩ := h.cons_inv
    simp only [List.all_cons, Bool.and_eq_true] at hf
    exact .cons (flat2_any hf.1 h1) (flat2s_any hf.2 h2)

theorem flat1_flat2 {v : AV} (h : flat1 v = true) : flat2 v = true := by
  cases v <;> first | exact h | simp [flat1] at h

section
variable {P : Program} {B : Base}

/-- What is known of blocks handed over. -/
structure Views (B : Base) (w : World) (k k' : Nat) (bs : List (Nat × Blk)) (E : List (Nat × (Nat × Nat × Option Nat))) : Prop where
  le : k ≤ k'
  rng : ∀ i b, lk bs i = some b → k ≤ i ∧ i < k'
  rngE : ∀ i x, lk E i = some x → k ≤ i ∧ i < k'
  blk : ∀ i b, lk bs i = some b → ∃ p s m, lk E i = some (p, s, m) ∧ ∀ ψ, BR B ψ w b p s m

theorem Views.nil {w : World} (k : Nat) : Views B w k k [] [] := ⟨Nat.le_refl _, fun i b h => (by cases h), fun i b h => (by cases h), fun i b h => (by cases h)⟩

theorem Views.append {w : World} {k k' k'' : Nat} {bs bs' E E'} (h : Views B w k k' bs E) (h' : Views B w k' k'' bs' E') : Views B w k k'' (bs ++ bs') (E ++ E') where
  le := Nat.le_trans h.le h'.le
  rng := fun i b hb => by
    rw [lk_append] at hb
    have a1 := h.le; have a2 := h'.le
    cases hx : lk bs i with
    | some c => have := h.rng i c hx; omega
    | none => rw [hx, Option.none_or] at hb; have := h'.rng i b hb; omega
  rngE := fun i b hb => by
    rw [lk_append] at hb
    have a1 := h.le; have a2 := h'.le
    cases hx : lk E i with
    | some c => have := h.rngE i c hx; omega
    | none => rw [hx, Option.none_or] at hb; have := h'.rngE i b hb; omega
  blk := fun i b hb => by
    rw [lk_append] at hb
    cases hx : lk bs i with
    | some c =>
      rw [hx] at hb; simp at hb; subst hb
      obtain ⟨p, s, m, h1, h2⟩ := h.blk i c hx
      exact ⟨p, s, m, by rw [lk_append, h1]; rfl, h2⟩
    | none =>
      rw [hx, Option.none_or] at hb
      obtain ⟨p, s, m, h1, h2⟩ := h'.blk i b hb
      refine ⟨p, s, m, ?_, h2⟩
      rw [lk_append]
      cases hy : lk E i with
      | none => rw [Option.none_or]; exact h1
      | some x => have := h.rngE i x hy; have := h'.rng i b hb; omega

def Emb.has (ψ : Emb) (E : List (Nat × (Nat × Nat × Option Nat))) : Prop := ∀ i x, lk E i = some x → ψ i = some x

theorem Views.has {w : World} {k k' k'' : Nat} {bs bs' E E'} (h : Views B w k k' bs E) (h' : Views B w k' k'' bs' E') {ψ : Emb} (hh : ψ.has (E ++ E')) : ψ.has E ∧ ψ.has E' := by
  refine ⟨fun i x hx => hh i x (by rw [lk_append, hx]; rfl), fun i x hx => hh i x ?_⟩
  rw [lk_append]
  cases hy : lk E i with
  | none => rw [Option.none_or]; exact hx
  | some y => have := h.rngE i y hy; have := h'.rngE i x hx; omega

theorem view_br {w : World} {φ : Emb} {b : Blk} {p s : Nat} {m : Option Nat} (br : BR B φ w b p s m) {o n : Nat} (hl : o + n ≤ b.cells.length) (hf : ((b.cells.drop o).take n).all flat1 = true) (ψ : Emb) :
    BR B ψ w ⟨(b.cells.drop o).take n, b.ro, b.ty, false, false⟩ p (s + o) m where
  ro := br.ro
  own := fun hro => by
    obtain ⟨h1, r, h2, h3, h4, h5, h7, h6⟩ := br.own hro
    refine ⟨h1, r, h2, h3, ?_, fun e => by simp at e, fun e => by simp at e, fun j a c => h6 j (by omega) c⟩
    simp only [List.length_take, List.length_drop]
    omega
  cell := fun j v hj => by
    have hjn : j < n := by
      rcases Nat.lt_or_ge j n with h' | h'
      · exact h'
      · have hj' : ((b.cells.drop o).take n)[j]? = some v := hj
        rw [List.getElem?_eq_none (by simp; omega)] at hj'; cases hj'
    have hj' : ((b.cells.drop o).take n)[j]? = some v := hj
    have hmem : v ∈ (b.cells.drop o).take n := List.mem_of_getElem? hj'
    rw [List.getElem?_take_of_lt hjn, List.getElem?_drop] at hj'
    obtain ⟨v', e, hv⟩ := br.cell _ v hj'
    exact ⟨v', by rw [Nat.add_assoc]; exact e, flat1_any (List.all_eq_true.1 hf v hmem) hv⟩

theorem viewCs_ok {φ : Emb} {H : AH} {w : World} (hr : Rel B φ H w) : ∀ {l : List AV} {us : List Value} {k : Nat} {as bs k'}, viewCs H l k = some (as, bs, k') → VRs φ l us →
    ∃ E, Views B w k k' bs E ∧ as.length = l.length ∧ ∀ ψ : Emb, ψ.has E → VRs ψ as us
  | [], us, k, as, bs, k', h, hv => by
    simp [viewCs] at h
    obtain ⟨rfl, rfl, rfl⟩ := h
    exact ⟨[], Views.nil k, rfl, fun ψ _ => by rw [hv.nil_inv]; exact .nil⟩
  | v :: l, us, k, as, bs, k', h, hv => by
    obtain ⟨u, us', rfl, hv1, hv2⟩ := hv.cons_inv
    simp only [viewCs] at h
    split at h
    · rename_i hf
      split at h
      · rename_i as1 bs1 k1 h1
        simp at h; obtain ⟨rfl, rfl, rfl⟩ := h
        obtain ⟨E, a1, a3, a2⟩ := viewCs_ok hr h1 hv2
        exact ⟨E, a1, by simp [a3], fun ψ hψ => .cons (flat1_any hf hv1) (a2 ψ hψ)⟩
      · cases h
    · split at h
      · rename_i i o z n c hnf
        split at h
        · rename_i b hb
          split at h
          · rename_i hc
            split at h
            · rename_i as1 bs1 k1 h1
              simp at h; obtain ⟨rfl, rfl, rfl⟩ := h
              obtain ⟨E, a1, a3, a2⟩ := viewCs_ok hr h1 hv2
              obtain ⟨p, s, m, e, br⟩ := hr.blk i b hb
              have hone : Views B w k (k + 1) [(k, ⟨(b.cells.drop o).take (n * z), b.ro, b.ty, false, false⟩)] [(k, (p, s + o, m))] := by
                refine ⟨Nat.le_succ _, fun j c hj => ?_, fun j c hj => ?_, fun j c hj => ?_⟩
                · simp only [lk] at hj; split at hj <;> simp at hj; omega
                · simp only [lk] at hj; split at hj <;> simp at hj; omega
                · simp only [lk] at hj
                  split at hj
                  · rename_i ejk
                    simp at hj; subst hj
                    exact ⟨p, s + o, m, by simp [lk, ejk], fun ψ => view_br br hc.1 hc.2 ψ⟩
                  · simp at hj
              have happ := hone.append a1
              refine ⟨_, happ, by simp [a3], fun ψ hψ => ?_⟩
              obtain ⟨g1, g2⟩ := hone.has a1 hψ
              have gk : ψ k = some (p, s + o, m) := g1 k _ (by simp [lk])
              refine .cons ?_ (a2 ψ g2)
              rcases hv1.sl_inv with ⟨p', s', m', cc, e1, e2, e3, e4, rfl⟩ | ⟨e1, e2, ad, rfl⟩
              · rw [e] at e1; simp at e1; obtain ⟨rfl, rfl, rfl⟩ := e1
                have := VRs.sl (φ := ψ) (i := k) (o := 0) (z := z) (n := n) (c := c) (cc := cc) gk (fun r hr' => by have := e2 r hr'; omega) e3 e4 .nil
                exact this
              · subst e1
                exact VRs.slz ad e2 .nil
            · cases h
          · cases h
        · cases h
      · cases h

theorem views_ok {φ : Emb} {H : AH} {w : World} (hr : Rel B φ H w) : ∀ {l : List AV} {us : List Value} {k : Nat} {as bs k'}, views H l k = some (as, bs, k') → VRs φ l us →
    ∃ E, Views B w k k' bs E ∧ ∀ ψ : Emb, ψ.has E → VRs ψ as us
  | [], us, k, as, bs, k', h, hv => by
    simp [views] at h
    obtain ⟨rfl, rfl, rfl⟩ := h
    exact ⟨[], Views.nil k, fun ψ _ => by rw [hv.nil_inv]; exact .nil⟩
  | v :: l, us, k, as, bs, k', h, hv => by
    obtain ⟨u, us', rfl, hv1, hv2⟩ := hv.cons_inv
    have one : ∀ {x : Option (List AV × List (Nat × Blk) × Nat)}, (match viewCs H [v] k with
        | some ([v'], bs, k') => match views H l k' with
          | some (as, bs', k'') => some (v' :: as, bs ++ bs', k'')
          | none => none
        | _ => none) = some (as, bs, k') → ∃ E, Views B w k k' bs E ∧ ∀ ψ : Emb, ψ.has E → VRs ψ as (u :: us') := by
      intro _ h
      split at h
      · rename_i v' bs1 k1 h1
        split at h
        · rename_i as2 bs2 k2 h2
          simp at h; obtain ⟨rfl, rfl, rfl⟩ := h
          obtain ⟨E1, a1, _, a2⟩ := viewCs_ok hr h1 (VRs.cons hv1 .nil)
          obtain ⟨E2, b1, b2⟩ := views_ok hr h2 hv2
          refine ⟨_, a1.append b1, fun ψ hψ => ?_⟩
          obtain ⟨g1, g2⟩ := a1.has b1 hψ
          exact .cons (a2 ψ g1).head (b2 ψ g2)
        · cases h
      · cases h
    cases v with
    | agg cs =>
      simp only [views] at h
      split at h
      · rename_i cs' bs1 k1 h1
        split at h
        · rename_i as2 bs2 k2 h2
          simp at h; obtain ⟨rfl, rfl, rfl⟩ := h
          obtain ⟨ds, hd, rfl⟩ := hv1.agg_inv
          obtain ⟨E1, a1, _, a2⟩ := viewCs_ok hr h1 hd
          obtain ⟨E2, b1, b2⟩ := views_ok hr h2 hv2
          refine ⟨_, a1.append b1, fun ψ hψ => ?_⟩
          obtain ⟨g1, g2⟩ := a1.has b1 hψ
          exact .cons (VR.agg (a2 ψ g1)) (b2 ψ g2)
        · cases h
      · cases h
    | _ => exact one (x := none) h

/-- The heap of one's own of a call by value. -/
theorem views_rel {φ : Emb} {H : AH} {w : World} (hr : Rel B φ H w) {l : List AV} {us : List Value} {as bs k'} (h : views H l B.G = some (as, bs, k')) (hv : VRs φ l us) :
    ∃ φp : Emb, Rel B φp ⟨bs ++ B.T, k', k'⟩ w ∧ VRs φp as us ∧ (∀ g, g < B.G → φp g = some (g, 0, none)) ∧ ∀ i, k' ≤ i → φp i = none := by
  obtain ⟨E, h1, h2⟩ := views_ok hr h hv
  have hG := h1.le
  let φp : Emb := fun i => if i < B.G then some (i, 0, none) else lk E i
  have hhas : φp.has E := fun i x hx => by
    have := h1.rngE i x hx
    show (if i < B.G then some (i, 0, none) else lk E i) = some x
    rw [if_neg (by omega)]; exact hx
  have hglob : ∀ g, g < B.G → φp g = some (g, 0, none) := fun g hg => by
    show (if g < B.G then some (g, 0, none) else lk E g) = _
    rw [if_pos hg]
  have hget : ∀ i b, ({ blks := bs ++ B.T, next := k', floor := k' } : AH).get i = some b → (lk bs i = some b) ∨ (lk bs i = none ∧ lk B.T i = some b) := fun i b hb => by
    have hb' : lk (bs ++ B.T) i = some b := hb
    rw [lk_append] at hb'
    cases hx : lk bs i with
    | some c => rw [hx] at hb'; exact .inl hb'
    | none => rw [hx, Option.none_or] at hb'; exact .inr ⟨rfl, hb'⟩
  refine ⟨φp, ⟨hr.know, hr.hB, fun i b hb => ?_, Nat.le_refl _, fun i b hb => ?_, fun i j b c p s m q t n hi hj hb hc e1 e2 hij hfl => ?_⟩, h2 φp hhas, hglob, fun i hi => ?_⟩
  · show i < k'
    rcases hget i b hb with g | ⟨_, g⟩
    · exact (h1.rng i b g).2
    · have := (hr.know.2 i b g).2.2.1; omega
  · rcases hget i b hb with g | ⟨_, g⟩
    · obtain ⟨p, s, m, e1, e2⟩ := h1.blk i b g
      exact ⟨p, s, m, hhas i _ e1, e2 φp⟩
    · obtain ⟨k1, k2, k3, k4⟩ := hr.know.2 i b g
      refine ⟨i, 0, none, hglob i k3, fun _ => ⟨k2, rfl⟩, fun e => (by rw [k1] at e; cases e), fun j v hj => ?_⟩
      obtain ⟨v', e1, e2⟩ := k4 j v hj
      refine ⟨v', by rw [Nat.zero_add]; exact e1, e2.mono fun g x hx => ?_⟩
      unfold Go.Am.glob at hx
      split at hx
      · simp at hx; subst hx; exact hglob g (by assumption)
      · cases hx
  · exfalso
    have lt : ∀ i b, ({ blks := bs ++ B.T, next := k', floor := k' } : AH).get i = some b → i < k' := fun i b hb => by
      rcases hget i b hb with g | ⟨_, g⟩
      · exact (h1.rng i b g).2
      · have := (hr.know.2 i b g).2.2.1; omega
    have a1 := lt i b hi
    have a2 := lt j c hj
    have hfl' : k' ≤ i ∨ k' ≤ j := hfl
    omega
  · show (if i < B.G then some (i, 0, none) else lk E i) = none
    rw [if_neg (by omega)]
    cases hx : lk E i with
    | none => rfl
    | some x => have := h1.rngE i x hx; omega

/-- A block of the callee's goes over to the caller. -/
theorem Step.adopt {φ ψ : Emb} {H : AH} {w w' : World} (hr : Rel B φ H w) (hf : φ H.next = none) (hsz : w.heap.size ≤ w'.heap.size) (hheap : ∀ p, p < w.heap.size → w'.heap[p]? = w.heap[p]?)
    (hos : w'.os = w.os) (htp : w'.tape = w.tape) (hou : w'.output = w.output) {b : Blk} {p s : Nat} {m : Option Nat} (hro : b.ro = false) (hfl : b.cells.all flat1 = true) (br : BR B ψ w' b p s m) (hp : w.heap.size ≤ p) :
    Step B φ H w (φ.upd H.next (p, s, m)) { H with blks := (H.next, b) :: H.blks, next := H.next + 1 } w' := by
  have hle := Emb.le_upd (p, s, m) hf
  have ne : ∀ {i c}, H.get i = some c → i ≠ H.next := fun hb e => by have := hr.live _ _ hb; omega
  have hget : ∀ i, ({ H with blks := (H.next, b) :: H.blks, next := H.next + 1 } : AH).get i = if i = H.next then some b else H.get i := fun i => by
    show lk ((H.next, b) :: H.blks) i = _
    simp only [lk]
    by_cases e : H.next = i
    · rw [if_pos e, if_pos e.symm]
    · rw [if_neg e, if_neg (Ne.symm e)]; rfl
  have hg := hr.grow hle hsz hheap
  refine ⟨⟨hg.know, hg.hB, fun i c hc => ?_, ?_, fun i c hc => ?_, fun i j c d p1 s1 m1 q t n hi hj hc hd e1 e2 hij hfl2 => ?_⟩, fun i hi => ?_, Nat.le_succ _, rfl, fun i hi => ?_, fun i c hi hc => ?_, hos, htp, hou, hsz, fun q hq _ => hheap q hq, ?_⟩
  · rw [hget] at hc
    show i < H.next + 1
    split at hc
    · omega
    · have := hr.live i c hc; omega
  · have := hr.fl; show H.floor ≤ H.next + 1; omega
  · rw [hget] at hc
    split at hc
    · rename_i e
      subst e
      simp at hc; subst hc
      refine ⟨p, s, m, Emb.upd_same _ _ _, br.ro, br.own, fun j v hj => ?_⟩
      obtain ⟨v', e1, e2⟩ := br.cell j v hj
      exact ⟨v', e1, flat1_any (List.all_eq_true.1 hfl v (List.mem_of_getElem? hj)) e2⟩
    · exact hg.blk i c hc
  · rw [hget] at hi hj
    have old : ∀ {i c p s m}, H.get i = some c → c.ro = false → φ.upd H.next (p, s, m) i = some (p1, s1, m1) → p1 < w.heap.size := fun {i c p s m} hi hc e => by
      rw [Emb.upd_other _ _ _ (ne hi)] at e
      exact hr.lt_heap hi hc e
    have old2 : ∀ {i c p s m}, H.get i = some c → c.ro = false → φ.upd H.next (p, s, m) i = some (q, t, n) → q < w.heap.size := fun {i c p s m} hi hc e => by
      rw [Emb.upd_other _ _ _ (ne hi)] at e
      exact hr.lt_heap hi hc e
    split at hi
    · rename_i ei
      subst ei
      rw [if_neg (Ne.symm hij)] at hj
      have := old2 hj hd e2
      rw [Emb.upd_same] at e1; simp at e1
      omega
    · split at hj
      · rename_i ej
        subst ej
        have := old hi hc e1
        rw [Emb.upd_same] at e2; simp at e2
        omega
      · exact hg.inj i j c d p1 s1 m1 q t n hi hj hc hd e1 e2 hij hfl2
  · refine Emb.upd_other _ _ _ ?_
    have : ({ H with blks := (H.next, b) :: H.blks, next := H.next + 1 } : AH).next = H.next + 1 := rfl
    omega
  · have := hr.fl
    rw [hget, if_neg (by omega)]
  · rw [hget, if_neg (by omega)] at hc
    exact ⟨c, hc, rfl⟩
  · rintro q ⟨i, c, s1, m1, f1, f2, f3, f4⟩
    rw [hget] at f2
    split at f2
    · rename_i ei
      subst ei
      rw [Emb.upd_same] at f4; simp at f4
      exact .inr (by omega)
    · rw [Emb.upd_other _ _ _ (ne f2)] at f4
      exact .inl ⟨i, c, s1, m1, f1, f2, f3, f4⟩

/-- Results handed back. -/
theorem backs_ok {φ φp ψ2 : Emb} {H Hp H2 : AH} {w w' : World} {kp : Nat} (hr : Rel B φ H w) (hkp : Hp.floor = kp) (hempty : ∀ p, ¬ Foot φp Hp p) (h : Step B φp Hp w ψ2 H2 w') : ∀ {vs : List AV} {us : List Value} {vs' : List AV} {H' : AH}, backs H2 kp H vs = some (vs', H') → VRs ψ2 vs us → Free φ H.next H'.next →
    ∃ ψ, Step B φ H w ψ H' w' ∧ VRs ψ vs' us
  | [], us, vs', H', hb, hv, hf => by
    simp [backs] at hb
    obtain ⟨rfl, rfl⟩ := hb
    have hframe : ∀ p, p < w.heap.size → w'.heap[p]? = w.heap[p]? := fun p hp => h.frame p hp (hempty p)
    refine ⟨φ, ⟨hr.grow (Emb.le_refl _) h.size hframe, fun _ _ => rfl, Nat.le_refl _, rfl, fun _ _ => rfl, fun i b _ hb => ⟨b, hb, rfl⟩, h.os, h.tape, h.output, h.size, fun p hp _ => hframe p hp, fun p hp => .inl hp⟩, ?_⟩
    rw [hv.nil_inv]; exact .nil
  | v :: vs, us, vs', H', hb, hv, hf => by
    obtain ⟨u, us', rfl, hv1, hv2⟩ := hv.cons_inv
    simp only [backs] at hb
    split at hb
    · rename_i hfl
      split at hb
      · rename_i vs1 H1 h1
        simp at hb; obtain ⟨rfl, rfl⟩ := hb
        obtain ⟨ψ, a1, a2⟩ := backs_ok hr hkp hempty h h1 hv2 hf
        exact ⟨ψ, a1, .cons (flat2_any hfl hv1) a2⟩
      · cases hb
    · split at hb
      · rename_i i o z n c hnf
        split at hb
        · rename_i hc
          split at hb
          · rename_i b hbi
            split at hb
            · rename_i hbc
              simp at hb; obtain ⟨rfl, rfl⟩ := hb
              have hframe : ∀ p, p < w.heap.size → w'.heap[p]? = w.heap[p]? := fun p hp => h.frame p hp (hempty p)
              obtain ⟨p, s, m, e, br⟩ := h.rel.blk i b hbi
              have hp : w.heap.size ≤ p := by
                rcases h.foot p ⟨i, b, s, m, by rw [h.flo, hkp]; exact hc.1, hbi, hbc.1, e⟩ with g | g
                · exact absurd g (hempty p)
                · exact g
              refine ⟨_, Step.adopt hr (hf H.next (Nat.le_refl _) (Nat.lt_succ_self _)) h.size hframe h.os h.tape h.output hbc.1 hbc.2 br hp, .cons ?_ (flat2s_any hc.2 hv2)⟩
              rcases hv1.sl_inv with ⟨p', s', m', cc, e1, e2, e3, e4, rfl⟩ | ⟨e1, e2, ad, rfl⟩
              · rw [e] at e1; simp at e1; obtain ⟨rfl, rfl, rfl⟩ := e1
                exact VRs.sl (Emb.upd_same _ _ _) e2 e3 e4 .nil
              · subst e1
                exact VRs.slz ad e2 .nil
            · cases hb
          · cases hb
        · cases hb
      · cases hb

theorem backs_next {H2 H : AH} {kp : Nat} : ∀ {vs vs' : List AV} {H' : AH}, backs H2 kp H vs = some (vs', H') → H.next ≤ H'.next
  | [], vs', H', hb => by simp [backs] at hb; obtain ⟨_, rfl⟩ := hb; exact Nat.le_refl _
  | v :: vs, vs', H', hb => by
    simp only [backs] at hb
    split at hb
    · split at hb
      · rename_i h1
        simp at hb; obtain ⟨_, rfl⟩ := hb
        exact backs_next h1
      · cases hb
    · split at hb
      · split at hb
        · split at hb
          · split at hb
            · simp at hb; obtain ⟨_, rfl⟩ := hb; exact Nat.le_succ _
            · cases hb
          · cases hb
        · cases hb
      · cases hb

end
end Go.Am

/- The abstract machine's calls are the model's calls. Conditions: the machine's table was compiled from the program's functions; its rows for functions without a text do what those do. -/
namespace Go.Am
open Go.RowKit

section
variable {P : Program} {B : Base}

theorem abody_next {call : Call} (hm : CallMono call) {okc : FuncId → Bool} {n : Nat} {fn : AFun} {args : List AV} {H H' : AH} {out : Out} (h : abody call okc n fn args H = some (out, H')) : H.next ≤ H'.next := by
  unfold abody at h
  split at h
  · split at h
    · rename_i s hs
      split at h
      · simp at h; obtain ⟨_, rfl⟩ := h
        have := run_next hm n _ hs; exact this
      · cases h
    · rename_i s hs
      split at h
      · simp at h; obtain ⟨_, rfl⟩ := h
        have := run_next hm n _ hs; exact this
      · cases h
    · rename_i v s hs
      simp at h; obtain ⟨_, rfl⟩ := h
      have := run_next hm n _ hs; exact this
    · cases h
  · split at h
    · rename_i s1 hs1
      have h1 := run_next hm n _ hs1
      split at h
      · split at h
        · have fin : ∀ (x : AX) (s : St), run call n fn.code s1 = some (x, s) → ∀ v H2 g cs, call g cs s.H = some (.ok v, H2) → H.next ≤ H2.next := fun x s hs v H2 g cs hc => by
            have h2 := run_next hm n _ hs
            have h3 := hm _ _ _ _ _ hc
            exact Nat.le_trans h1 (Nat.le_trans h2 h3)
          split at h
          · rename_i s hs
            split at h
            · rename_i v H2 hc
              split at h
              · simp at h; obtain ⟨_, rfl⟩ := h; exact fin _ s hs _ _ _ _ hc
              · cases h
            · cases h
          · rename_i s hs
            split at h
            · rename_i v H2 hc
              split at h
              · simp at h; obtain ⟨_, rfl⟩ := h; exact fin _ s hs _ _ _ _ hc
              · cases h
            · cases h
          · cases h
        · cases h
      · cases h
    · cases h

theorem acall_next {G : Nat} {T : List (Nat × Blk)} {X : Ext} {M : Tab} (hX : ExtOk P B X) : ∀ n, CallMono (acall G T X M n)
  | 0 => fun f args H out H' h => by cases h
  | n + 1 => fun f args H out H' h => by
    simp only [acall] at h
    split at h
    · rename_i g hg
      exact hX.next f g args H out H' hg h
    · split at h
      · cases h
      · rename_i fn hfn
        split at h
        · split at h
          · cases h
          · split at h
            · split at h
              · split at h
                · rename_i hb
                  simp at h; obtain ⟨_, rfl⟩ := h
                  exact backs_next hb
                · cases h
              · cases h
            · split at h
              · split at h
                · rename_i hb
                  simp at h; obtain ⟨_, rfl⟩ := h
                  exact backs_next hb
                · cases h
              · cases h
            · cases h
        · exact abody_next (acall_next hX n) h

/-- What a function without a 'defer' of its own comes to, whoever enters it. -/
def WpOk (P : Program) (B : Base) (X : Ext) (M : Tab) (call : Call) : Prop := ∀ (f : FuncId) (fn : AFun) (args : List AV) (H : AH) (out : Out) (H' : AH) (φ : Emb) (vs : List Value) (w : World),
  X f = none → M f = some fn → fn.pre = none → call f args H = some (out, H') → Rel B φ H w → VRs φ args vs → GlobR P φ → Free φ H.next H'.next →
    ∃ F c, P.funcs[f]? = some F ∧ F.body = some c ∧ F.name ≠ "runtime.NumGoroutine" ∧ c.wp P (bodyPost P F (Post B φ H w out H')) { tmps := vs.toArray ++ Array.replicate (F.ntmps - vs.toArray.size) Go.undef, defers := [] } w

theorem cfunD_pre {F : Func} {l m : List Hint} {fn : AFun} (h : cfunD P F l m = some fn) : fn.pre ≠ none ∧ fn.view = false := by
  unfold cfunD at h
  split at h
  · split at h
    · split at h
      · simp only [Option.some.injEq] at h; subst h; exact ⟨by simp, rfl⟩
      · cases h
    · cases h
  · cases h
theorem cfunL_pre {F : Func} {l : List Hint} {v : Bool} {fn : AFun} (h : cfunL P F l v = some fn) : fn.pre = none := by
  unfold cfunL at h
  simp only [Option.map_eq_some_iff] at h
  obtain ⟨fn0, h0, rfl⟩ := h
  unfold cfun at h0
  split at h0
  · split at h0
    · simp only [Option.some.injEq] at h0; subst h0; rfl
    · cases h0
  · cases h0

theorem acall_wp {X : Ext} {M : Tab} (hX : ExtOk P B X) (hM : TabOk P M) (hmix : P.follows .mixedOrders = true) (hG : B.G = P.globals.size) {n : Nat} (hc : CallOk P B (acall B.G B.T X M n)) : WpOk P B X M (acall B.G B.T X M (n + 1)) := fun f fn args H out H' φ vs w hxf hfn hpre h hr hv hg hf => by
  have hmono := acall_next (G := B.G) (T := B.T) (M := M) hX n
  simp only [acall, hxf, hfn] at h
  obtain ⟨F, hF, ⟨l, vw, hl⟩ | ⟨l, m, hl⟩⟩ := hM f fn hfn
  · unfold cfunL at hl
    simp only [Option.map_eq_some_iff] at hl
    obtain ⟨fn0, hl0, hl1⟩ := hl
    unfold cfun at hl0
    split at hl0
    · rename_i c rs hb hrs
      split at hl0
      · rename_i hname
        simp only [Option.some.injEq] at hl0
        subst hl0
        subst hl1
        simp only [abody] at h
        have hcr : CR P F.ntmps c (relive (comp P F.ntmps c) l).1 := relive_cr c l
        have hname' : F.name ≠ "runtime.NumGoroutine" := by simpa using hname
        refine ⟨F, c, hF, hb, hname', ?_⟩
        have hsz : F.ntmps ≤ (vs.toArray ++ Array.replicate (F.ntmps - vs.toArray.size) Go.undef).size := by simp; omega
        split at h
        · -- by value
          split at h
          · cases h
          · rename_i as bs kp hvw
            obtain ⟨φp, hrp, hvp, hgp, hfp⟩ := views_rel hr hvw hv
            have hgp' : GlobR P φp := fun g hg' => hgp g (by rw [hG]; exact hg')
            have henv := envR_args hvp (F.ntmps - vs.toArray.size)
            have hemp : ∀ p, ¬ Foot φp ⟨bs ++ B.T, kp, kp⟩ p := fun p ⟨i, b, s, m, f1, f2, f3, f4⟩ => by
              have := hrp.live i b f2
              have f1' : kp ≤ i := f1
              have f2' : i < kp := this
              omega
            have fin : ∀ (x : AX) (s : St), run (acall B.G B.T X M n) n (relive (comp P F.ntmps c) l).1 ⟨number as 0, ⟨bs ++ B.T, kp, kp⟩⟩ = some (x, s) → (x = .nrm ∨ x = .ret) →
                (match resAll s.e s.H rs with | some vs => (match backs s.H kp H vs with | some (vs', H') => some (Out.ok (pack vs'), H') | none => none) | none => none) = some (out, H') →
                c.wp P (bodyPost P F (Post B φ H w out H')) { tmps := vs.toArray ++ Array.replicate (F.ntmps - vs.toArray.size) Go.undef, defers := [] } w := by
              intro x s hs hx hres
              split at hres
              · rename_i rv hrv
                split at hres
                · rename_i rv' H1 hbk
                  simp only [Option.some.injEq, Prod.mk.injEq] at hres
                  obtain ⟨rfl, rfl⟩ := hres
                  refine run_ok hc hmono hmix n hcr hs hrp hgp' henv hsz (fun i hi _ => hfp i hi) fun ψ ex a' w' q1 q2 q3 q4 q5 => ?_
                  obtain ⟨us, r1, r2⟩ := results_ok q2.rel q3 hrs hrv
                  obtain ⟨χ, t1, t2⟩ := backs_ok hr rfl hemp q2 hbk r2 hf
                  have hp : Post B φ H w (.ok (pack rv')) H1 (.returned (packV us)) w' := Post.ok t1 (pack_ok t2)
                  rcases hx with rfl | rfl
                  · cases q1; exact ⟨q5, _, r1, hp⟩
                  · cases q1; exact ⟨q5, _, r1, hp⟩
                · cases hres
              · cases hres
            split at h
            · rename_i s hs
              exact fin .nrm s hs (.inl rfl) h
            · rename_i s hs
              exact fin .ret s hs (.inr rfl) h
            · cases h
        · have henv := envR_args hv (F.ntmps - vs.toArray.size)
          have fin : ∀ (x : AX) (s : St), run (acall B.G B.T X M n) n (relive (comp P F.ntmps c) l).1 ⟨number args 0, H⟩ = some (x, s) → (x = .nrm ∨ x = .ret) → (match resAll s.e s.H rs with | some vs => some (Out.ok (pack vs), s.H) | none => none) = some (out, H') →
              c.wp P (bodyPost P F (Post B φ H w out H')) { tmps := vs.toArray ++ Array.replicate (F.ntmps - vs.toArray.size) Go.undef, defers := [] } w := by
            intro x s hs hx hres
            split at hres
            · rename_i rv hrv
              simp only [Option.some.injEq, Prod.mk.injEq] at hres
              obtain ⟨rfl, rfl⟩ := hres
              refine run_ok hc hmono hmix n hcr hs hr hg henv hsz hf fun ψ ex a' w' q1 q2 q3 q4 q5 => ?_
              obtain ⟨us, r1, r2⟩ := results_ok q2.rel q3 hrs hrv
              have q2' : Step B φ H w ψ s.H w' := q2
              have hp : Post B φ H w (.ok (pack rv)) s.H (.returned (packV us)) w' := Post.ok q2' (pack_ok r2)
              rcases hx with rfl | rfl
              · cases q1; exact ⟨q5, _, r1, hp⟩
              · cases q1; exact ⟨q5, _, r1, hp⟩
            · cases hres
          split at h
          · rename_i s hs
            exact fin .nrm s hs (.inl rfl) h
          · rename_i s hs
            exact fin .ret s hs (.inr rfl) h
          · rename_i v s hs
            simp only [Option.some.injEq, Prod.mk.injEq] at h
            obtain ⟨rfl, rfl⟩ := h
            refine run_ok hc hmono hmix n hcr hs hr hg henv hsz hf fun ψ ex a' w' q1 q2 q3 q4 q5 => ?_
            cases q1 with
            | pan hv => exact ⟨q5, ψ, q2, _, rfl, hv⟩
          · cases h
      · cases hl0
    · cases hl0
  · exact absurd hpre (cfunD_pre hl).1

/-! ### Functions that defer -/

theorem then_then (k m : Act → World → Prop) (Q : Exit → Act → World → Prop) : Exit.then k (Exit.then m Q) = Exit.then k Q := by
  funext e a w; cases e <;> rfl
theorem then_self (Q : Exit → Act → World → Prop) : Exit.then (Q .normal) Q = Q := by
  funext e a w; cases e <;> rfl

/-- Codes one behind the other, then k. -/
def wpsL (P : Program) (Q : Exit → Act → World → Prop) (k : Act → World → Prop) : List Code → Act → World → Prop
  | [] => k
  | c :: cs => c.wp P (Exit.then (wpsL P Q k cs) Q)

theorem wpsL_snoc {Q : Exit → Act → World → Prop} {k : Act → World → Prop} {q : Code} : ∀ cs : List Code, wpsL P Q k (cs ++ [q]) = wpsL P Q (q.wp P (Exit.then k Q)) cs
  | [] => rfl
  | c :: cs => by simp only [List.cons_append, wpsL, wpsL_snoc cs]
theorem wpsL_then {Q : Exit → Act → World → Prop} {k m : Act → World → Prop} : ∀ cs : List Code, wpsL P (Exit.then m Q) k cs = wpsL P Q k cs
  | [] => rfl
  | c :: cs => by simp only [wpsL, wpsL_then cs, then_then]

theorem splitD_wp : ∀ {c : Code} {x y : List Code} {id : Nat} {ops : Array Oper} {Q : Exit → Act → World → Prop} {a : Act} {w : World}, splitD c = some (x, id, ops, y) →
    wpsL P Q ((Code.region id ops false).wp P (Exit.then (wpsL P Q (Q .normal) y) Q)) x a w → c.wp P Q a w := by
  intro c
  induction c with
  | region i o d =>
    intro x y id ops Q a w h hw
    cases d with
    | true => simp [splitD] at h
    | false =>
      simp only [splitD] at h
      split at h
      · simp only [Option.some.injEq, Prod.mk.injEq] at h
        obtain ⟨rfl, rfl, rfl, rfl⟩ := h
        simp only [wpsL, then_self] at hw
        exact hw
      · cases h
  | seq p q ih1 ih2 =>
    intro x y id ops Q a w h hw
    simp only [splitD] at h
    split at h
    · rename_i x1 id1 ops1 y1 h1
      simp only [Option.some.injEq, Prod.mk.injEq] at h
      obtain ⟨rfl, rfl, rfl, rfl⟩ := h
      refine wp_seq (ih1 h1 ?_)
      rw [wpsL_snoc, then_self] at hw
      rw [wpsL_then, wpsL_then, then_then]
      exact hw
    · split at h
      · rename_i x1 id1 ops1 y1 h1
        simp only [Option.some.injEq, Prod.mk.injEq] at h
        obtain ⟨rfl, rfl, rfl, rfl⟩ := h
        refine wp_seq (wp_mono hw fun e a w he => ?_)
        cases e <;> first | exact ih2 h1 he | exact he
      · cases h
  | _ => intro x y id ops Q a w h; simp [splitD] at h

inductive CRs (P : Program) (nt : Nat) : List Code → ACode → Prop
  | nil : CRs P nt [] .skip
  | cons {c : Code} {cs : List Code} {x y : ACode} : CR P nt c x → CRs P nt cs y → CRs P nt (c :: cs) (.seq x y)

theorem relive_crs {nt : Nat} : ∀ (cs : List Code) (l : List Hint), CRs P nt cs (relive (compL P nt cs) l).1
  | [], l => by cases l with | nil => exact .nil | cons h l => cases h <;> exact .nil
  | c :: cs, l => .cons (relive_cr c l) (relive_crs cs _)

theorem runs_ok {call : Call} {nt : Nat} (hcall : CallOk P B call) (hm : CallMono call) (hmix : P.follows .mixedOrders = true) (lf : Nat) {cs : List Code} {d : ACode} (h : CRs P nt cs d) : ∀ {s s' : St} {x : AX} {φ : Emb} {a : Act} {w : World} {Q : Exit → Act → World → Prop} {k : Act → World → Prop}, run call lf d s = some (x, s') →
    Rel B φ s.H w → GlobR P φ → EnvR φ s.e a.tmps → nt ≤ a.tmps.size → Free φ s.H.next s'.H.next →
    (∀ ψ ex a' w', XR ψ x ex → Step B φ s.H w ψ s'.H w' → EnvR ψ s'.e a'.tmps → a'.tmps.size = a.tmps.size → a'.defers = a.defers → Exit.then k Q ex a' w') → wpsL P Q k cs a w := by
  induction h with
  | nil =>
    intro s s' x φ a w Q k hx hr hg he hn hf hQ
    simp [run] at hx
    obtain ⟨rfl, rfl⟩ := hx
    exact hQ φ .normal a w .nrm (Step.refl hr) he rfl rfl
  | cons h1 h2 ih =>
    intro s s' x φ a w Q k hx hr hg he hn hf hQ
    simp only [run] at hx
    split at hx
    · rename_i s1 hx1
      have n1 := run_next hm lf _ hx1
      have n2 := run_next hm lf _ hx
      refine run_ok hcall hm hmix lf h1 hx1 hr hg he hn (hf.mono (Nat.le_refl _) n2) fun ψ ex a' w' q1 q2 q3 q4 q5 => ?_
      obtain rfl := q1.nrm_inv
      have hle := q2.le (hf.mono (Nat.le_refl _) n2)
      exact ih hx q2.rel (hg.mono hle) q3 (by rw [q4]; exact hn) (q2.free hf) fun χ ex a2 w2 r1 r2 r3 r4 r5 => hQ χ ex a2 w2 r1 (q2.trans r2) r3 (by rw [r4, q4]) (by rw [r5, q5])
    · rename_i hno
      refine run_ok hcall hm hmix lf h1 hx hr hg he hn hf fun ψ ex a' w' q1 q2 q3 q4 q5 => ?_
      have := hQ ψ ex a' w' q1 q2 q3 q4 q5
      cases q1 with
      | nrm => exact absurd hx (hno _)
      | exit id => exact this
      | ret => exact this
      | pan _ => exact this

theorem deferT_inv {o : Oper} {t : Nat} (h : deferT o = some t) : ∃ c, o.op = .defer c ∧ o.guard = none ∧ o.dst = none ∧ c.callee = .value (.tmp t) ∧ c.args = #[] := by
  unfold deferT at h
  split at h
  · rename_i c h1 h2 h3
    split at h
    · rename_i t' h4 h5
      simp only [Option.some.injEq] at h
      subst h
      exact ⟨c, h1, h2, h3, h4, by apply Array.ext'; simpa using h5⟩
    · cases h
  · cases h

/-- The door: the closure deferred is laid by. -/
theorem defer_op {ops : Array Oper} {o : Oper} {t : Nat} {g : FuncId} {cs : List AV} {φ : Emb} {e : Env} {a : Act} {w : World} {Q : Exit → Act → World → Prop} (ho : deferT o = some t) (he : EnvR φ e a.tmps) (hg : e.at t = .func g cs)
    (h : ∀ ds : Array Value, VRs φ cs ds.toList → Q .normal { a with defers := { target := .fn (.func g) ds, args := #[] } :: a.defers } w) : wpList P ops Q [o] a w := by
  obtain ⟨c, h1, h2, h3, h4, h5⟩ := deferT_inv ho
  have ht := he t
  rw [hg] at ht
  obtain ⟨ds, hds, hv⟩ := ht.func_inv
  have hv' : a.eval (.tmp t) = .func (.func g) #[] ds := hv
  have hex : (execOp a.eval o).run P w = .ok (.defer { target := .fn (.func g) ds, args := #[] }) w := by
    simp [execOp, h1, resolve, h4, h5, hv', Deferred.ofValue]
  unfold wpList
  rw [if_pos (by simp [Region.wanted, h2])]
  left
  unfold Oper.wp
  rw [hex]
  simp only [Oper.upon, wpList, h3, Act.put]
  exact h ds hds

theorem acall_both {X : Ext} {M : Tab} (hX : ExtOk P B X) (hM : TabOk P M) (hmix : P.follows .mixedOrders = true) (hG : B.G = P.globals.size) : ∀ n, CallOk P B (acall B.G B.T X M n) ∧ WpOk P B X M (acall B.G B.T X M n)
  | 0 => ⟨fun f args H out H' φ vs w h => (by cases h), fun f fn args H out H' φ vs w _ _ _ h => (by cases h)⟩
  | n + 1 => by
    obtain ⟨hc, hwn⟩ := acall_both hX hM hmix hG n
    have hmono := acall_next (G := B.G) (T := B.T) (M := M) hX n
    have hw := acall_wp (n := n) hX hM hmix hG hc
    refine ⟨fun f args H out H' φ vs w h hr hv hg hf => ?_, hw⟩
    have h0 := h
    simp only [acall] at h
    split at h
    · rename_i g hxg
      exact hX.does f g args H out H' φ vs w hxg h hr hv hg hf
    · rename_i hxf
      split at h
      · cases h
      · rename_i fn hfn
        cases hpre : fn.pre with
        | none =>
          obtain ⟨F, c, hF, hb, hname, hwp⟩ := hw f fn args H out H' φ vs w hxf hfn hpre h0 hr hv hg hf
          have hcall : (callFunc f vs.toArray).run P w = .ok (.enter f vs.toArray) w := by simp [callFunc, hF, hname, hb]
          rw [hcall]
          exact calls_of_wp hF hb hwp
        | some p =>
          obtain ⟨F, hF, ⟨l, vw, hl⟩ | ⟨l, m, hl⟩⟩ := hM f fn hfn
          · rw [cfunL_pre hl] at hpre; cases hpre
          · rw [if_neg (by rw [(cfunD_pre hl).2]; simp)] at h
            unfold cfunD at hl
            split at hl
            · rename_i x id ops y rs hsp hrs
              split at hl
              · rename_i t hot
                split at hl
                · rename_i hname
                  simp only [Option.some.injEq] at hl
                  subst hl
                  have hname' : F.name ≠ "runtime.NumGoroutine" := by simpa using hname
                  obtain ⟨c, hb, hspl⟩ := Option.bind_eq_some_iff.1 hsp
                  obtain ⟨o, hlast, hod⟩ := Option.bind_eq_some_iff.1 hot
                  have hops : ops.toList = ops.toList.dropLast ++ [o] := by
                    obtain ⟨ys, hys⟩ := List.getLast?_eq_some_iff.1 hlast
                    rw [hys, List.dropLast_concat]
                  simp only [abody] at h
                  have hcall : (callFunc f vs.toArray).run P w = .ok (.enter f vs.toArray) w := by simp [callFunc, hF, hname', hb]
                  rw [hcall]
                  show Calls P f vs.toArray w _
                  have hsz : F.ntmps ≤ (vs.toArray ++ Array.replicate (F.ntmps - vs.toArray.size) Go.undef).size := by simp; omega
                  have henv := envR_args hv (F.ntmps - vs.toArray.size)
                  split at h
                  · rename_i s1 hs1
                    split at h
                    · rename_i g cs hat
                      split at h
                      · rename_i hok
                        have fin : ∀ (x' : AX) (s : St), run (acall B.G B.T X M n) n (relive (compL P F.ntmps y) m).1 s1 = some (x', s) → (x' = .nrm ∨ x' = .ret) →
                            (match acall B.G B.T X M n g cs s.H with | some (.ok _, H2) => (match resAll s.e H2 rs with | some vs => some (Out.ok (pack vs), H2) | none => none) | _ => none) = some (out, H') → Calls P f vs.toArray w (Post B φ H w out H') := by
                          intro x' s hs hx' hres
                          split at hres
                          · rename_i v H2 hcl
                            split at hres
                            · rename_i rv hrv
                              simp only [Option.some.injEq, Prod.mk.injEq] at hres
                              obtain ⟨rfl, rfl⟩ := hres
                              have m1 := run_next hmono n _ hs1
                              have m2 := run_next hmono n _ hs
                              have m3 := hmono _ _ _ _ _ hcl
                              simp only at m1
                              refine calls_of_wp_defers hF hb (splitD_wp hspl ?_)
                              simp only [run] at hs1
                              split at hs1
                              · rename_i s0 hs0
                                have m0 := runR_next hmono _ hs1
                                refine runs_ok hc hmono hmix n (relive_crs x l) hs0 hr hg henv hsz (hf.mono (Nat.le_refl _) (by omega)) fun ψ ex a' w' q1 q2 q3 q4 q5 => ?_
                                obtain rfl := q1.nrm_inv
                                have hle := q2.le (hf.mono (Nat.le_refl _) (by omega))
                                have hf1 := q2.free hf
                                refine wp_region_list ?_
                                rw [hops]
                                refine wpList_append _ (list_ok hc hmono _ hs1 q2.rel (hg.mono hle) q3 (by rw [q4]; exact hsz) (hf1.mono (Nat.le_refl _) (by omega)) fun χ ex2 a2 w2 r1 r2 r3 r4 r5 => ?_)
                                obtain rfl := r1.nrm_inv
                                have hle2 := r2.le (hf1.mono (Nat.le_refl _) (by omega))
                                have hf2 := r2.free hf1
                                refine defer_op hod r3 hat fun ds hds => ?_
                                refine runs_ok (a := { a2 with defers := _ }) hc hmono hmix n (relive_crs y m) hs r2.rel ((hg.mono hle).mono hle2) r3 (by show F.ntmps ≤ a2.tmps.size; rw [r4, q4]; exact hsz) (hf2.mono (Nat.le_refl _) (by omega)) fun ω ex3 a3 w3 p1 p2 p3 p4 p5 => ?_
                                have hle3 := p2.le (hf2.mono (Nat.le_refl _) (by omega))
                                have hf3 := p2.free hf2
                                have hdf : a3.defers = [{ target := .fn (.func g) ds, args := #[] }] := by rw [p5]; simp [r5, q5]
                                have hdoor : Leaves P F a3.tmps (Post B φ H w (.ok (pack rv)) H2) a3.defers .returning w3 := by
                                  rw [hdf]
                                  unfold okc at hok
                                  split at hok
                                  · rename_i k hxg hmg
                                    have hkp : k.pre = none := by simpa using hok
                                    obtain ⟨Fg, cg, hFg, hbg, hng, hwg⟩ := hwn g k cs s.H (.ok v) H2 ω ds.toList w3 hxg hmg hkp hcl p2.rel (hds.mono hle3) (((hg.mono hle).mono hle2).mono hle3) hf3
                                    have hwg' : cg.wp P (bodyPost P Fg (Post B ω s.H w3 (.ok v) H2)) { tmps := ds ++ Array.replicate (Fg.ntmps - ds.size) Go.undef, defers := [] } w3 := hwg
                                    have hinv : (invoke (.fn (.func g) ds) #[]).run P w3 = .ok (.enter g ds) w3 := by
                                      simp [invoke, callFunc, hFg, hng, hbg]
                                    refine leaves_cons (by simp) hinv ((callsD_of_wp (u := .returning) hFg hbg hwg').mono ?_)
                                    rintro e u' w4 ⟨rfl, ψ4, t1, v4, rfl, t2⟩
                                    have hle4 := t1.le hf3
                                    obtain ⟨us, z1, z2⟩ := results_ok t1.rel (p3.mono hle4) hrs hrv
                                    exact ⟨_, z1, Post.ok (((q2.trans r2).trans p2).trans t1) (pack_ok z2)⟩
                                  · cases hok
                                rcases hx' with rfl | rfl
                                · cases p1; exact hdoor
                                · cases p1; exact hdoor
                              · rename_i hno
                                exact absurd hs1 (hno _)
                            · cases hres
                          · cases hres
                        split at h
                        · rename_i s hs
                          exact fin .nrm s hs (.inl rfl) h
                        · rename_i s hs
                          exact fin .ret s hs (.inr rfl) h
                        · cases h
                      · cases h
                    · cases h
                  · cases h
                · cases hl
              · cases hl
            · cases hl

theorem acall_ok {X : Ext} {M : Tab} (hX : ExtOk P B X) (hM : TabOk P M) (hmix : P.follows .mixedOrders = true) (hG : B.G = P.globals.size) (n : Nat) : CallOk P B (acall B.G B.T X M n) := (acall_both hX hM hmix hG n).1

end
end Go.Am

/- The machine without a bound on its steps: what a call comes to at last. Conditions: those that each theorem names. -/
namespace Go.Am

def Call.le (c d : Call) : Prop := ∀ f args H r, c f args H = some r → d f args H = some r

section
variable {c d : Call}

theorem exe_mono (h : c.le d) {e : Env} {op : AOp} {H : AH} {r : Out × AH} (hx : exe c e op H = some r) : exe d e op H = some r := by
  cases op <;> first
    | exact hx
    | exact h _ _ _ _ hx
    | (simp only [exe] at hx ⊢
       split at hx
       · exact h _ _ _ _ hx
       · cases hx)

theorem runR_mono (h : c.le d) : ∀ (l : List AIns) {s : St} {r : AX × St}, runR c l s = some r → runR d l s = some r
  | [], s, r, hx => hx
  | i :: l, s, r, hx => by
    simp only [runR] at hx ⊢
    split at hx
    · cases hx
    · exact runR_mono h l hx
    · split at hx
      · cases hx
      · rename_i he; rw [exe_mono h he]; exact runR_mono h l hx
      · rename_i he; rw [exe_mono h he]; exact hx

theorem stepD_mono (h : c.le d) {all : List DIns} {e0 : Env} {o : DIns} {j : Nat} {t t' : DSt} (hx : stepD c all e0 o j t = some t') : stepD d all e0 o j t = some t' := by
  unfold stepD at hx ⊢
  simp only at hx ⊢
  split at hx
  · cases hx
  · exact hx
  · split at hx
    · rename_i hk
      rw [if_pos hk]
      split at hx
      · rename_i he; rw [exe_mono h he]; exact hx
      · cases hx
    · rename_i hk0
      rw [if_neg hk0]
      split at hx
      · rename_i hk1
        rw [if_pos hk1]
        split at hx
        · rename_i he; rw [exe_mono h he]; exact hx
        · cases hx
      · rename_i hk1
        rw [if_neg hk1]
        split at hx
        · rename_i he; rw [exe_mono h he]; exact hx
        · cases hx

theorem runD_mono (h : c.le d) {all : List DIns} {e0 : Env} : ∀ (l : List DIns) {j : Nat} {t t' : DSt}, runD c all e0 l j t = some t' → runD d all e0 l j t = some t'
  | [], j, t, t', hx => hx
  | o :: l, j, t, t', hx => by
    simp only [runD] at hx ⊢
    split at hx
    · rename_i h1; rw [stepD_mono h h1]; exact runD_mono h l hx
    · cases hx

theorem runDr_mono (h : c.le d) {is : List DIns} {s : St} {r : AX × St} (hx : runDr c is s = some r) : runDr d is s = some r := by
  unfold runDr at hx ⊢
  split at hx
  · rename_i h1; rw [runD_mono h is h1]; exact hx
  · cases hx

theorem iter_mono {b b' : St → Option (AX × St)} (h : ∀ s r, b s = some r → b' s = some r) {live : Option (List Nat)} : ∀ (n m : Nat) {s : St} {r : AX × St}, n ≤ m → iter b live n s = some r → iter b' live m s = some r
  | 0, m, s, r, _, hx => by cases hx
  | n + 1, 0, s, r, hn, hx => by omega
  | n + 1, m + 1, s, r, hn, hx => by
    simp only [iter] at hx ⊢
    split at hx
    · rename_i h1; rw [h _ _ h1]; exact iter_mono h n m (by omega) hx
    · rename_i h1
      rw [h _ _ hx]
      split
      · rename_i h2; simp only [Option.some.injEq] at h2; subst h2; exact absurd hx (h1 _)
      · rfl

theorem run_mono (h : c.le d) {n m : Nat} (hn : n ≤ m) : ∀ (code : ACode) {s : St} {r : AX × St}, run c n code s = some r → run d m code s = some r
  | .skip, s, r, hx => hx
  | .reg is, s, r, hx => runR_mono h is hx
  | .regd is, s, r, hx => runDr_mono h hx
  | .seq a b, s, r, hx => by
    simp only [run] at hx ⊢
    split at hx
    · rename_i h1; rw [run_mono h hn a h1]; exact run_mono h hn b hx
    · rename_i h1
      rw [run_mono h hn a hx]
      split
      · rename_i h2; simp only [Option.some.injEq] at h2; subst h2; exact absurd hx (h1 _)
      · rfl
  | .cond z a b, s, r, hx => by
    simp only [run] at hx ⊢
    split at hx
    · rename_i t ht
      cases t with
      | true => exact run_mono h hn a hx
      | false => exact run_mono h hn b hx
    · cases hx
  | .block id b, s, r, hx => by
    simp only [run] at hx ⊢
    split at hx
    · rename_i h1; rw [run_mono h hn b h1]; exact hx
    · rename_i h1
      rw [run_mono h hn b hx]
      split
      · rename_i h2; simp only [Option.some.injEq] at h2; subst h2; exact absurd hx (h1 _ _)
      · rfl
  | .loop live b, s, r, hx => by
    simp only [run] at hx ⊢
    exact iter_mono (fun s r h1 => run_mono h hn b h1) n m hn hx
  | .exit id, s, r, hx => hx
  | .ret, s, r, hx => hx
  | .trim l, s, r, hx => hx
end

theorem abody_mono {c d : Call} (h : c.le d) {okc : FuncId → Bool} {n m : Nat} (hn : n ≤ m) {fn : AFun} {args : List AV} {H : AH} {r : Out × AH} (hx : abody c okc n fn args H = some r) : abody d okc m fn args H = some r := by
  unfold abody at hx ⊢
  cases hp : fn.pre with
  | none =>
    simp only [hp] at hx ⊢
    split at hx
    · rename_i s hs
      rw [run_mono h hn _ hs]; exact hx
    · rename_i s hs
      rw [run_mono h hn _ hs]; exact hx
    · rename_i v s hs
      rw [run_mono h hn _ hs]; exact hx
    · cases hx
  | some p =>
    obtain ⟨c1, t⟩ := p
    simp only [hp] at hx ⊢
    split at hx
    · rename_i s1 hs1
      simp only [run_mono h hn _ hs1]
      split at hx
      · rename_i g cs hat
        split at hx
        · rename_i hok
          simp only [hok, if_true]
          split at hx
          · rename_i s hs
            simp only [run_mono h hn _ hs]
            split at hx
            · rename_i v H2 hcl
              simp only [h _ _ _ _ hcl]; exact hx
            · cases hx
          · rename_i s hs
            simp only [run_mono h hn _ hs]
            split at hx
            · rename_i v H2 hcl
              simp only [h _ _ _ _ hcl]; exact hx
            · cases hx
          · cases hx
        · cases hx
      · cases hx
    · cases hx

theorem acall_mono (G : Nat) (T : List (Nat × Blk)) (X : Ext) (M : Tab) : ∀ n, (acall G T X M n).le (acall G T X M (n + 1))
  | 0, f, args, H, r, hx => by cases hx
  | n + 1, f, args, H, r, hx => by
    have ih := acall_mono G T X M n
    rw [acall] at hx ⊢
    split at hx
    · exact hx
    · split at hx
      · cases hx
      · rename_i fn hfn
        split at hx
        · rename_i hv
          simp only [hv, if_true]
          split at hx
          · cases hx
          · rename_i as bs kp hvw
            split at hx
            · rename_i s hs
              rw [run_mono ih (Nat.le_succ n) _ hs]; exact hx
            · rename_i s hs
              rw [run_mono ih (Nat.le_succ n) _ hs]; exact hx
            · cases hx
        · rename_i hv
          simp only [hv]
          exact abody_mono ih (Nat.le_succ n) hx

theorem acall_monos (G : Nat) (T : List (Nat × Blk)) (X : Ext) (M : Tab) {n m : Nat} (h : n ≤ m) : (acall G T X M n).le (acall G T X M m) := by
  induction m with
  | zero => obtain rfl : n = 0 := by omega
            exact fun _ _ _ _ h => h
  | succ m ih =>
    by_cases e : n = m + 1
    · subst e; exact fun _ _ _ _ h => h
    · intro f args H r hx
      exact acall_mono G T X M m f args H r (ih (by omega) f args H r hx)

/-! ### At last -/

open Classical in
/-- What a sequence that keeps its answers answers at last. -/
noncomputable def lim {α : Type} (F : Nat → Option α) : Option α := if h : ∃ n r, F n = some r then F h.choose else none

theorem lim_of {α : Type} {F : Nat → Option α} (hm : ∀ n m r, n ≤ m → F n = some r → F m = some r) {n : Nat} {r : α} (h : F n = some r) : lim F = some r := by
  have hex : ∃ n r, F n = some r := ⟨n, r, h⟩
  unfold lim
  rw [dif_pos hex]
  obtain ⟨r', hr'⟩ := hex.choose_spec
  rw [hr']
  have a := hm _ (max n hex.choose) _ (Nat.le_max_left _ _) h
  have b := hm _ (max n hex.choose) _ (Nat.le_max_right _ _) hr'
  rw [a] at b
  exact b.symm

theorem lim_some {α : Type} {F : Nat → Option α} {r : α} (h : lim F = some r) : ∃ n, F n = some r := by
  unfold lim at h
  split at h
  · rename_i hex; exact ⟨_, h⟩
  · cases h

section
variable (G : Nat) (T : List (Nat × Blk)) (X : Ext) (M : Tab)

noncomputable def ecall : Call := fun f args H => lim fun n => acall G T X M n f args H

theorem ecall_of {n : Nat} {f : FuncId} {args : List AV} {H : AH} {r : Out × AH} (h : acall G T X M n f args H = some r) : ecall G T X M f args H = some r :=
  lim_of (F := fun n => acall G T X M n f args H) (fun n m r hnm hr => acall_monos G T X M hnm f args H r hr) h

theorem ecall_some {f : FuncId} {args : List AV} {H : AH} {r : Out × AH} (h : ecall G T X M f args H = some r) : ∃ n, acall G T X M n f args H = some r := lim_some h

noncomputable def eiter (b : St → Option (AX × St)) (live : Option (List Nat)) (s : St) : Option (AX × St) := lim fun n => iter b live n s

theorem eiter_of {b : St → Option (AX × St)} {live : Option (List Nat)} {n : Nat} {s : St} {r : AX × St} (h : iter b live n s = some r) : eiter b live s = some r :=
  lim_of (F := fun n => iter b live n s) (fun n m r hnm hr => iter_mono (fun _ _ h => h) n m hnm hr) h

theorem eiter_eq (b : St → Option (AX × St)) (live : Option (List Nat)) (s : St) : eiter b live s = match b { s with e := keep s.e live } with
    | some (.nrm, s') => eiter b live s'
    | r => r := by
  have fwd : ∀ r, (match b { s with e := keep s.e live } with | some (.nrm, s') => eiter b live s' | r => r) = some r → eiter b live s = some r := by
    intro r h
    split at h
    · rename_i s' h1
      obtain ⟨n, hn⟩ := lim_some h
      refine eiter_of (n := n + 1) ?_
      simp only [iter, h1]
      exact hn
    · rename_i h1
      refine eiter_of (n := 1) ?_
      simp only [iter]
      exact h
  cases hx : eiter b live s with
  | some r =>
    obtain ⟨n, hn⟩ := lim_some hx
    cases n with
    | zero => cases hn
    | succ n =>
      simp only [iter] at hn
      split at hn
      · rename_i s' h1
        rw [h1]
        exact (eiter_of hn).symm
      · rename_i h1
        rw [hn]
        split
        · rename_i h2; simp only [Option.some.injEq] at h2; subst h2; exact absurd hn (h1 _)
        · rfl
  | none =>
    cases hy : (match b { s with e := keep s.e live } with | some (.nrm, s') => eiter b live s' | r => r) with
    | none => rfl
    | some r => rw [fwd r hy] at hx; cases hx

/-- Code, without a bound on the rounds. -/
noncomputable def erun (call : Call) : ACode → St → Option (AX × St)
  | .skip, s => some (.nrm, s)
  | .reg is, s => runR call is s
  | .regd is, s => runDr call is s
  | .seq a b, s => match erun call a s with
    | some (.nrm, s') => erun call b s'
    | r => r
  | .cond c a b, s => match c.val s.e with
    | .bool t => if t then erun call a { s with e := knowA s.e c } else erun call b { s with e := knowA s.e c }
    | _ => none
  | .block id b, s => match erun call b s with
    | some (.exit id', s') => if id' = id then some (.nrm, s') else some (.exit id', s')
    | r => r
  | .loop live b, s => eiter (erun call b) live s
  | .exit id, s => some (.exit id, s)
  | .ret, s => some (.ret, s)
  | .trim l, s => some (.nrm, { s with e := keep s.e (some l) })

theorem exe_lim {e : Env} {op : AOp} {H : AH} {r : Out × AH} (hx : exe (ecall G T X M) e op H = some r) : ∃ n, exe (acall G T X M n) e op H = some r := by
  cases op <;> first
    | exact ⟨0, hx⟩
    | exact lim_some hx
    | (simp only [exe] at hx ⊢
       split at hx
       · exact lim_some hx
       · cases hx)

theorem runR_lim : ∀ (l : List AIns) {s : St} {r : AX × St}, runR (ecall G T X M) l s = some r → ∃ n, runR (acall G T X M n) l s = some r
  | [], s, r, hx => ⟨0, hx⟩
  | i :: l, s, r, hx => by
    simp only [runR] at hx ⊢
    split at hx
    · cases hx
    · exact runR_lim l hx
    · split at hx
      · cases hx
      · rename_i he
        obtain ⟨n, hn⟩ := exe_lim G T X M he
        obtain ⟨m, hm⟩ := runR_lim l hx
        refine ⟨max n m, ?_⟩
        rw [exe_mono (acall_monos G T X M (Nat.le_max_left n m)) hn]
        exact runR_mono (acall_monos G T X M (Nat.le_max_right n m)) l hm
      · rename_i he
        obtain ⟨n, hn⟩ := exe_lim G T X M he
        exact ⟨n, by rw [hn]; exact hx⟩

theorem stepD_lim {all : List DIns} {e0 : Env} {o : DIns} {j : Nat} {t t' : DSt} (hx : stepD (ecall G T X M) all e0 o j t = some t') : ∃ n, stepD (acall G T X M n) all e0 o j t = some t' := by
  unfold stepD at hx ⊢
  simp only at hx ⊢
  split at hx
  · cases hx
  · exact ⟨0, hx⟩
  · split at hx
    · rename_i hk
      simp only [if_pos hk]
      split at hx
      · rename_i he
        obtain ⟨n, hn⟩ := exe_lim G T X M he
        exact ⟨n, by rw [hn]; exact hx⟩
      · cases hx
    · rename_i hk0
      simp only [if_neg hk0]
      split at hx
      · rename_i hk1
        simp only [if_pos hk1]
        split at hx
        · rename_i he
          obtain ⟨n, hn⟩ := exe_lim G T X M he
          exact ⟨n, by rw [hn]; exact hx⟩
        · cases hx
      · rename_i hk1
        simp only [if_neg hk1]
        split at hx
        · rename_i he
          obtain ⟨n, hn⟩ := exe_lim G T X M he
          exact ⟨n, by rw [hn]; exact hx⟩
        · cases hx

theorem runD_lim {all : List DIns} {e0 : Env} : ∀ (l : List DIns) {j : Nat} {t t' : DSt}, runD (ecall G T X M) all e0 l j t = some t' → ∃ n, runD (acall G T X M n) all e0 l j t = some t'
  | [], j, t, t', hx => ⟨0, hx⟩
  | o :: l, j, t, t', hx => by
    simp only [runD] at hx ⊢
    split at hx
    · rename_i h1
      obtain ⟨n, hn⟩ := stepD_lim G T X M h1
      obtain ⟨m, hm⟩ := runD_lim l hx
      refine ⟨max n m, ?_⟩
      rw [stepD_mono (acall_monos G T X M (Nat.le_max_left n m)) hn]
      exact runD_mono (acall_monos G T X M (Nat.le_max_right n m)) l hm
    · cases hx

theorem runDr_lim {is : List DIns} {s : St} {r : AX × St} (hx : runDr (ecall G T X M) is s = some r) : ∃ n, runDr (acall G T X M n) is s = some r := by
  unfold runDr at hx ⊢
  split at hx
  · rename_i h1
    obtain ⟨n, hn⟩ := runD_lim G T X M is h1
    exact ⟨n, by rw [hn]; exact hx⟩
  · cases hx

theorem erun_lim : ∀ (code : ACode) {s : St} {r : AX × St}, erun (ecall G T X M) code s = some r → ∃ n, run (acall G T X M n) n code s = some r
  | .skip, s, r, hx => ⟨0, hx⟩
  | .exit _, s, r, hx => ⟨0, hx⟩
  | .ret, s, r, hx => ⟨0, hx⟩
  | .trim _, s, r, hx => ⟨0, hx⟩
  | .reg is, s, r, hx => runR_lim G T X M is hx
  | .regd is, s, r, hx => runDr_lim G T X M hx
  | .seq a b, s, r, hx => by
    simp only [erun] at hx
    split at hx
    · rename_i h1
      obtain ⟨n, hn⟩ := erun_lim a h1
      obtain ⟨m, hm⟩ := erun_lim b hx
      refine ⟨max n m, ?_⟩
      simp only [run]
      rw [run_mono (acall_monos G T X M (Nat.le_max_left n m)) (Nat.le_max_left n m) a hn]
      exact run_mono (acall_monos G T X M (Nat.le_max_right n m)) (Nat.le_max_right n m) b hm
    · rename_i h1
      obtain ⟨n, hn⟩ := erun_lim a hx
      refine ⟨n, ?_⟩
      simp only [run]
      rw [hn]
      split
      · rename_i h2; simp only [Option.some.injEq] at h2; subst h2; exact absurd hx (h1 _)
      · rfl
  | .cond z a b, s, r, hx => by
    simp only [erun] at hx
    split at hx
    · rename_i t ht
      cases t with
      | true => obtain ⟨n, hn⟩ := erun_lim a hx; exact ⟨n, by simp only [run, ht, if_true]; exact hn⟩
      | false => obtain ⟨n, hn⟩ := erun_lim b (by simpa using hx); exact ⟨n, by simp only [run, ht]; exact hn⟩
    · cases hx
  | .block id b, s, r, hx => by
    simp only [erun] at hx
    split at hx
    · rename_i h1
      obtain ⟨n, hn⟩ := erun_lim b h1
      exact ⟨n, by simp only [run]; rw [hn]; exact hx⟩
    · rename_i h1
      obtain ⟨n, hn⟩ := erun_lim b hx
      refine ⟨n, ?_⟩
      simp only [run]
      rw [hn]
      split
      · rename_i h2; simp only [Option.some.injEq] at h2; subst h2; exact absurd hx (h1 _ _)
      · rfl
  | .loop live b, s, r, hx => by
    simp only [erun] at hx
    obtain ⟨k, hk⟩ := lim_some hx
    have key : ∀ (k : Nat) {s : St} {r : AX × St}, iter (erun (ecall G T X M) b) live k s = some r → ∃ n, iter (run (acall G T X M n) n b) live n s = some r := by
      intro k
      induction k with
      | zero => intro s r h; cases h
      | succ k ih =>
        intro s r h
        simp only [iter] at h
        split at h
        · rename_i h1
          obtain ⟨n, hn⟩ := erun_lim b h1
          obtain ⟨m, hm⟩ := ih h
          refine ⟨max n m + 1, ?_⟩
          simp only [iter]
          rw [run_mono (acall_monos G T X M (n := n) (m := max n m + 1) (by omega)) (by omega) b hn]
          exact iter_mono (fun s r h2 => run_mono (acall_monos G T X M (n := m) (m := max n m + 1) (by omega)) (by omega) b h2) m (max n m) (Nat.le_max_right n m) hm
        · rename_i h1
          obtain ⟨n, hn⟩ := erun_lim b h
          refine ⟨n + 1, ?_⟩
          simp only [iter]
          rw [run_mono (acall_monos G T X M (Nat.le_succ n)) (Nat.le_succ n) b hn]
          split
          · rename_i h2; simp only [Option.some.injEq] at h2; subst h2; exact absurd h (h1 _)
          · rfl
    obtain ⟨n, hn⟩ := key k hk
    exact ⟨n, by simp only [run]; exact hn⟩

/-- What a function's code comes to, called by value. -/
noncomputable def evals (call : Call) (fn : AFun) (args : List AV) (H : AH) : Option (Out × AH) :=
  match views H args G with
  | none => none
  | some (as, bs, kp) => match erun call fn.code ⟨number as 0, ⟨bs ++ T, kp, kp⟩⟩ with
    | some (.nrm, s) | some (.ret, s) => match resAll s.e s.H fn.res with
      | some vs => match backs s.H kp H vs with
        | some (vs', H') => some (.ok (pack vs'), H')
        | none => none
      | none => none
    | _ => none

/-- What a function's code comes to. -/
noncomputable def evale (call : Call) (fn : AFun) (args : List AV) (H : AH) : Option (Out × AH) :=
  match erun call fn.code ⟨number args 0, H⟩ with
  | some (.nrm, s) | some (.ret, s) => match resAll s.e s.H fn.res with
    | some vs => some (.ok (pack vs), s.H)
    | none => none
  | some (.pan v, s) => some (.pan v, s.H)
  | _ => none

theorem ecall_view {f : FuncId} {fn : AFun} {args : List AV} {H : AH} {r : Out × AH} (hX : X f = none) (hM : M f = some fn) (hv : fn.view = true) (h : evals G T (ecall G T X M) fn args H = some r) : ecall G T X M f args H = some r := by
  unfold evals at h
  split at h
  · cases h
  · rename_i as bs kp hvw
    split at h
    · rename_i s hs
      obtain ⟨n, hn⟩ := erun_lim G T X M fn.code hs
      refine ecall_of G T X M (n := n + 1) ?_
      rw [acall]
      simp only [hX, hM, hv, if_true, hvw, hn]
      exact h
    · rename_i s hs
      obtain ⟨n, hn⟩ := erun_lim G T X M fn.code hs
      refine ecall_of G T X M (n := n + 1) ?_
      rw [acall]
      simp only [hX, hM, hv, if_true, hvw, hn]
      exact h
    · cases h

theorem ecall_body {f : FuncId} {fn : AFun} {args : List AV} {H : AH} {r : Out × AH} (hX : X f = none) (hM : M f = some fn) (hv : fn.view = false) (h : evale (ecall G T X M) fn args H = some r) (hp : fn.pre = none := by rfl) : ecall G T X M f args H = some r := by
  unfold evale at h
  split at h
  · rename_i s hs
    obtain ⟨n, hn⟩ := erun_lim G T X M fn.code hs
    refine ecall_of G T X M (n := n + 1) ?_
    rw [acall]
    simp only [hX, hM, hv, abody, hp, hn]
    exact h
  · rename_i s hs
    obtain ⟨n, hn⟩ := erun_lim G T X M fn.code hs
    refine ecall_of G T X M (n := n + 1) ?_
    rw [acall]
    simp only [hX, hM, hv, abody, hp, hn]
    exact h
  · rename_i v s hs
    obtain ⟨n, hn⟩ := erun_lim G T X M fn.code hs
    refine ecall_of G T X M (n := n + 1) ?_
    rw [acall]
    simp only [hX, hM, hv, abody, hp, hn]
    exact h
  · cases h

/-- A function that defers: its code, then the closure's call. -/
theorem ecall_defer {f : FuncId} {fn : AFun} {c1 : ACode} {t : Nat} {args : List AV} {H : AH} {s1 s : St} {x : AX} {g : FuncId} {cs : List AV} {v : AV} {H2 : AH} {out : List AV} (hX : X f = none) (hM : M f = some fn) (hv : fn.view = false) (hp : fn.pre = some (c1, t))
    (h1 : erun (ecall G T X M) c1 ⟨number args 0, H⟩ = some (.nrm, s1)) (hat : s1.e.at t = .func g cs) (hok : okc X M g = true) (h2 : erun (ecall G T X M) fn.code s1 = some (x, s)) (hx : x = .nrm ∨ x = .ret) (h3 : ecall G T X M g cs s.H = some (.ok v, H2))
    (h4 : resAll s.e H2 fn.res = some out) : ecall G T X M f args H = some (.ok (pack out), H2) := by
  obtain ⟨n1, k1⟩ := erun_lim G T X M c1 h1
  obtain ⟨n2, k2⟩ := erun_lim G T X M fn.code h2
  obtain ⟨n3, k3⟩ := ecall_some G T X M h3
  have a1 := run_mono (acall_monos G T X M (Nat.le_max_left n1 (max n2 n3))) (Nat.le_max_left n1 (max n2 n3)) _ k1
  have b2 : n2 ≤ max n1 (max n2 n3) := by omega
  have b3 : n3 ≤ max n1 (max n2 n3) := by omega
  have a2 := run_mono (acall_monos G T X M b2) b2 _ k2
  have a3 := acall_monos G T X M b3 _ _ _ _ k3
  refine ecall_of G T X M (n := max n1 (max n2 n3) + 1) ?_
  rw [acall]
  simp only [hX, hM, hv, abody, hp, a1, hat, hok, if_true, Bool.false_eq_true, if_false]
  rcases hx with rfl | rfl <;> simp only [a2, a3, h4]

theorem ecall_ext {f : FuncId} {g : List AV → AH → Option (Out × AH)} (hX : X f = some g) (args : List AV) (H : AH) {r : Out × AH} (h : g args H = some r) : ecall G T X M f args H = some r := by
  refine ecall_of G T X M (n := 1) ?_
  rw [acall]
  simp only [hX]
  exact h

end

section
open Go.RowKit
variable {P : Program} {B : Base}

theorem ecall_ok {X : Ext} {M : Tab} (hX : ExtOk P B X) (hM : TabOk P M) (hmix : P.follows .mixedOrders = true) (hG : B.G = P.globals.size) : CallOk P B (ecall B.G B.T X M) := fun f args H out H' φ vs w h => by
  obtain ⟨n, hn⟩ := ecall_some B.G B.T X M h
  exact acall_ok hX hM hmix hG n f args H out H' φ vs w hn
end
end Go.Am

/- What must hold ahead of code for it to end as wished: a rule for each kind of code. Conditions: those that each theorem names. -/
namespace Go.Am

def wpR (call : Call) (K : AX → St → Prop) : List AIns → Env → AH → Prop
  | [], e, H => K .nrm ⟨e, H⟩
  | i :: is, e, H => match i.guard with
    | none => match exe call e i.op H with
      | none => False
      | some (.ok v, H') => wpR call K is (putd e i.dst v) H'
      | some (.pan v, H') => K (.pan v) ⟨e, H'⟩
    | some (g, b) => match e.at g with
      | .bool c => (c = b → match exe call e i.op H with
          | none => False
          | some (.ok v, H') => wpR call K is (putd ((g, .bool b) :: e) i.dst v) H'
          | some (.pan v, H') => K (.pan v) ⟨e, H'⟩) ∧ (c = (!b) → wpR call K is (putd ((g, .bool (!b)) :: e) i.dst (.tup [])) H)
      | .tup [] => wpR call K is (putd ((g, .tup []) :: e) i.dst (.tup [])) H
      | _ => False

def wpO (call : Call) (K : AX → St → Prop) (is : List AIns) (e e' : Env) (dst : Option Nat) : Option (Out × AH) → Prop
  | none => False
  | some (.ok v, H') => wpR call K is (putd e' dst v) H'
  | some (.pan v, H') => K (.pan v) ⟨e, H'⟩

def wpG (call : Call) (K : AX → St → Prop) (is : List AIns) (e : Env) (dst : Option Nat) (op : AOp) (g : Nat) (b : Bool) (H : AH) : AV → Prop
  | .bool c => (c = b → wpO call K is e ((g, .bool b) :: e) dst (exe call e op H)) ∧ (c = (!b) → wpR call K is (putd ((g, .bool (!b)) :: e) dst (.tup [])) H)
  | .tup [] => wpR call K is (putd ((g, .tup []) :: e) dst (.tup [])) H
  | _ => False

section
variable (call : Call) (K : AX → St → Prop) (is : List AIns) (e : Env) (H : AH) (dst : Option Nat) (op : AOp)
theorem wpR_nil : wpR call K [] e H = K .nrm ⟨e, H⟩ := rfl
theorem wpR_one : wpR call K (⟨dst, op, .none⟩ :: is) e H = wpO call K is e e dst (exe call e op H) := by
  simp only [wpR]
  cases exe call e op H with
  | none => rfl
  | some p => obtain ⟨out, H'⟩ := p; cases out <;> rfl
theorem wpR_if (g : Nat) (b : Bool) : wpR call K (⟨dst, op, some (g, b)⟩ :: is) e H = wpG call K is e dst op g b H (e.at g) := by
  simp only [wpR]
  cases e.at g with
  | bool c =>
    simp only [wpG]
    cases exe call e op H with
    | none => rfl
    | some p => obtain ⟨out, H'⟩ := p; cases out <;> rfl
  | tup vs => cases vs <;> rfl
  | _ => rfl
end

def thenK (next : St → Prop) (K : AX → St → Prop) : AX → St → Prop
  | .nrm, s => next s
  | .exit id, s => K (.exit id) s
  | .ret, s => K .ret s
  | .pan v, s => K (.pan v) s

def blockK (id : Nat) (K : AX → St → Prop) : AX → St → Prop
  | .nrm, s => K .nrm s
  | .exit id', s => if id' = id then K .nrm s else K (.exit id') s
  | .ret, s => K .ret s
  | .pan v, s => K (.pan v) s

def pushA (e : Env) (c : Arg) (t : Bool) : Env := match c with
  | .t n => (n, .bool t) :: e
  | .c _ => e

theorem pushA_eq {e : Env} {c : Arg} {t : Bool} (h : c.val e = .bool t) : knowA e c = pushA e c t := by
  cases c with
  | t n => simp only [knowA, pushA]; rw [show e.at n = .bool t from h]
  | c _ => rfl

def wp (call : Call) : ACode → (AX → St → Prop) → St → Prop
  | .skip, K, s => K .nrm s
  | .reg is, K, s => wpR call K is s.e s.H
  | .regd is, K, s => ∃ x s', runDr call is s = some (x, s') ∧ K x s'
  | .seq a b, K, s => wp call a (thenK (wp call b K) K) s
  | .cond c a b, K, s => match c.val s.e with
    | .bool t => (t = true → wp call a K { s with e := pushA s.e c true }) ∧ (t = false → wp call b K { s with e := pushA s.e c false })
    | _ => False
  | .block id b, K, s => wp call b (blockK id K) s
  | .loop live b, K, s => ∃ x s', eiter (erun call b) live s = some (x, s') ∧ K x s'
  | .exit id, K, s => K (.exit id) s
  | .ret, K, s => K .ret s
  | .trim l, K, s => K .nrm { s with e := keep s.e (some l) }

theorem wpR_sound {call : Call} {K : AX → St → Prop} : ∀ (is : List AIns) {e : Env} {H : AH}, wpR call K is e H → ∃ x s', runR call is ⟨e, H⟩ = some (x, s') ∧ K x s'
  | [], e, H, h => ⟨.nrm, _, rfl, h⟩
  | ⟨dst, op, gd⟩ :: is, e, H, h => by
    have run1 : wpO call K is e (know e gd) dst (exe call e op H) → want e gd = some true → ∃ x s', runR call (⟨dst, op, gd⟩ :: is) ⟨e, H⟩ = some (x, s') ∧ K x s' := by
      intro h1 hw
      cases hx : exe call e op H with
      | none => rw [hx] at h1; exact h1.elim
      | some p =>
        obtain ⟨out, H'⟩ := p
        rw [hx] at h1
        simp only [runR, hw, hx]
        cases out with
        | ok v => exact wpR_sound is h1
        | pan v => exact ⟨_, _, rfl, h1⟩
    cases gd with
    | none => rw [wpR_one] at h; exact run1 h rfl
    | some gb =>
      obtain ⟨g, b⟩ := gb
      rw [wpR_if] at h
      cases hc : e.at g with
      | bool c =>
        rw [hc] at h
        by_cases hcb : c = b
        · refine run1 ?_ (by simp [want, hc, hcb])
          have := h.1 hcb
          simp only [know, hc, hcb]
          exact this
        · have hc' : c = !b := by cases c <;> cases b <;> simp_all
          obtain ⟨x, s', h1, h2⟩ := wpR_sound is (h.2 hc')
          refine ⟨x, s', ?_, h2⟩
          have : want e (some (g, b)) = some false := by simp [want, hc, hc']
          simp only [runR, this, know, hc, hc']
          exact h1
      | tup vs =>
        rw [hc] at h
        cases vs with
        | nil =>
          obtain ⟨x, s', h1, h2⟩ := wpR_sound is h
          refine ⟨x, s', ?_, h2⟩
          have : want e (some (g, b)) = some false := by simp [want, hc]
          simp only [runR, this, know, hc]
          exact h1
        | cons _ _ => exact h.elim
      | _ => rw [hc] at h; exact h.elim

theorem wp_sound {call : Call} : ∀ (c : ACode) {K : AX → St → Prop} {s : St}, wp call c K s → ∃ x s', erun call c s = some (x, s') ∧ K x s'
  | .skip, K, s, h => ⟨_, _, rfl, h⟩
  | .exit _, K, s, h => ⟨_, _, rfl, h⟩
  | .ret, K, s, h => ⟨_, _, rfl, h⟩
  | .trim _, K, s, h => ⟨_, _, rfl, h⟩
  | .reg is, K, s, h => wpR_sound is h
  | .regd is, K, s, h => h
  | .loop _ _, K, s, h => h
  | .seq a b, K, s, h => by
    obtain ⟨x, s1, h1, h2⟩ := wp_sound a h
    cases x with
    | nrm =>
      obtain ⟨y, s2, h3, h4⟩ := wp_sound b h2
      exact ⟨y, s2, by simp only [erun, h1, h3], h4⟩
    | exit id => exact ⟨_, _, by simp only [erun, h1], h2⟩
    | ret => exact ⟨_, _, by simp only [erun, h1], h2⟩
    | pan v => exact ⟨_, _, by simp only [erun, h1], h2⟩
  | .cond c a b, K, s, h => by
    simp only [wp] at h
    split at h
    · rename_i t ht
      cases t with
      | true => obtain ⟨x, s', h1, h2⟩ := wp_sound a (h.1 rfl); exact ⟨x, s', by simp only [erun, ht, if_true, pushA_eq ht, h1], h2⟩
      | false => obtain ⟨x, s', h1, h2⟩ := wp_sound b (h.2 rfl); exact ⟨x, s', by simp only [erun, ht, Bool.false_eq_true, if_false, pushA_eq ht, h1], h2⟩
    · exact h.elim
  | .block id b, K, s, h => by
    obtain ⟨x, s1, h1, h2⟩ := wp_sound b h
    cases x with
    | nrm => exact ⟨_, _, by simp only [erun, h1], h2⟩
    | exit id' =>
      by_cases e : id' = id
      · simp only [blockK, e, if_true] at h2; exact ⟨_, _, by simp only [erun, h1, e, if_true], h2⟩
      · simp only [blockK, e, if_false] at h2; exact ⟨_, _, by simp only [erun, h1, e, if_false], h2⟩
    | ret => exact ⟨_, _, by simp only [erun, h1], h2⟩
    | pan v => exact ⟨_, _, by simp only [erun, h1], h2⟩

/-- A round of a loop. -/
theorem wp_loop {call : Call} {live : Option (List Nat)} {b : ACode} {K : AX → St → Prop} {s : St} (h : wp call b (thenK (wp call (.loop live b) K) K) { s with e := keep s.e live }) : wp call (.loop live b) K s := by
  obtain ⟨x, s1, h1, h2⟩ := wp_sound b h
  simp only [wp]
  rw [eiter_eq, h1]
  cases x with
  | nrm => exact h2
  | exit id => exact ⟨_, _, rfl, h2⟩
  | ret => exact ⟨_, _, rfl, h2⟩
  | pan v => exact ⟨_, _, rfl, h2⟩

theorem wpR_mono {call : Call} {K K' : AX → St → Prop} (hK : ∀ x s, K x s → K' x s) : ∀ (is : List AIns) {e : Env} {H : AH}, wpR call K is e H → wpR call K' is e H
  | [], e, H, h => hK _ _ h
  | ⟨dst, op, gd⟩ :: is, e, H, h => by
    have one : ∀ e', wpO call K is e e' dst (exe call e op H) → wpO call K' is e e' dst (exe call e op H) := by
      intro e' h1
      cases hx : exe call e op H with
      | none => rw [hx] at h1; exact h1.elim
      | some p =>
        obtain ⟨out, H'⟩ := p
        rw [hx] at h1
        cases out with
        | ok v => exact wpR_mono hK is h1
        | pan v => exact hK _ _ h1
    cases gd with
    | none => rw [wpR_one] at h ⊢; exact one _ h
    | some gb =>
      obtain ⟨g, b⟩ := gb
      rw [wpR_if] at h ⊢
      cases hc : e.at g with
      | bool c => rw [hc] at h; exact ⟨fun e => one _ (h.1 e), fun e => wpR_mono hK is (h.2 e)⟩
      | tup vs =>
        rw [hc] at h
        cases vs with
        | nil => exact wpR_mono hK is h
        | cons _ _ => exact h.elim
      | _ => rw [hc] at h; exact h.elim

theorem wp_mono {call : Call} : ∀ (c : ACode) {K K' : AX → St → Prop} {s : St}, (∀ x s, K x s → K' x s) → wp call c K s → wp call c K' s
  | .skip, K, K', s, hK, h => hK _ _ h
  | .exit _, K, K', s, hK, h => hK _ _ h
  | .ret, K, K', s, hK, h => hK _ _ h
  | .trim _, K, K', s, hK, h => hK _ _ h
  | .reg is, K, K', s, hK, h => wpR_mono hK is h
  | .regd is, K, K', s, hK, h => by obtain ⟨x, s', h1, h2⟩ := h; exact ⟨x, s', h1, hK _ _ h2⟩
  | .loop _ _, K, K', s, hK, h => by obtain ⟨x, s', h1, h2⟩ := h; exact ⟨x, s', h1, hK _ _ h2⟩
  | .seq a b, K, K', s, hK, h => wp_mono a (fun x s' h2 => by cases x <;> first | exact wp_mono b hK h2 | exact hK _ _ h2) h
  | .cond c a b, K, K', s, hK, h => by
    simp only [wp] at h ⊢
    split at h
    · exact ⟨fun e => wp_mono a hK (h.1 e), fun e => wp_mono b hK (h.2 e)⟩
    · exact h.elim
  | .block id b, K, K', s, hK, h => wp_mono b (fun x s' h2 => by
      cases x <;> simp only [blockK] at h2 ⊢
      case exit id' =>
        split at h2
        · rename_i e; rw [if_pos e]; exact hK _ _ h2
        · rename_i e; rw [if_neg e]; exact hK _ _ h2
      all_goals exact hK _ _ h2) h

/-- How a function ends. -/
def endK (res : List ARes) (R : List AV → AH → Prop) : AX → St → Prop
  | .nrm, s => ∃ vs, resAll s.e s.H res = some vs ∧ R vs s.H
  | .ret, s => ∃ vs, resAll s.e s.H res = some vs ∧ R vs s.H
  | _, _ => False

section
variable (G : Nat) (T : List (Nat × Blk)) (X : Ext) (M : Tab)

/-- A function's contract out of its code. -/
theorem ecall_wp {f : FuncId} {fn : AFun} {args : List AV} {H : AH} {out : AV} {H' : AH} (hX : X f = none) (hM : M f = some fn) (hv : fn.view = false)
    (h : wp (ecall G T X M) fn.code (endK fn.res fun vs H1 => pack vs = out ∧ H1 = H') ⟨number args 0, H⟩) (hp : fn.pre = none := by rfl) : ecall G T X M f args H = some (.ok out, H') := by
  refine ecall_body G T X M hX hM hv ?_ hp
  obtain ⟨x, s, h1, h2⟩ := wp_sound fn.code h
  unfold evale
  rw [h1]
  cases x with
  | nrm => obtain ⟨vs, h3, rfl, rfl⟩ := h2; simp only [h3]
  | ret => obtain ⟨vs, h3, rfl, rfl⟩ := h2; simp only [h3]
  | exit id => exact h2.elim
  | pan v => exact h2.elim

/-- A function's contract out of its code, called by value. -/
theorem ecall_wpv {f : FuncId} {fn : AFun} {args : List AV} {H : AH} {as : List AV} {bs : List (Nat × Blk)} {kp : Nat} {out : AV} {H' : AH} (hX : X f = none) (hM : M f = some fn) (hv : fn.view = true) (hvw : views H args G = some (as, bs, kp))
    (h : wp (ecall G T X M) fn.code (endK fn.res fun vs H1 => ∃ vs', backs H1 kp H vs = some (vs', H') ∧ pack vs' = out) ⟨number as 0, ⟨bs ++ T, kp, kp⟩⟩) : ecall G T X M f args H = some (.ok out, H') := by
  refine ecall_view G T X M hX hM hv ?_
  obtain ⟨x, s, h1, h2⟩ := wp_sound fn.code h
  unfold evals
  rw [hvw]
  simp only [h1]
  cases x with
  | nrm => obtain ⟨vs, h3, vs', h4, rfl⟩ := h2; simp only [h3, h4]
  | ret => obtain ⟨vs, h3, vs', h4, rfl⟩ := h2; simp only [h3, h4]
  | exit id => exact h2.elim
  | pan v => exact h2.elim

end
end Go.Am

/- The rules, first order: what is still to come is a list. Conditions: none, these are equations. -/
namespace Go.Am

inductive Fr where
  | code (c : ACode)
  | block (id : Nat)

def later (call : Call) (K : AX → St → Prop) : List Fr → AX → St → Prop
  | [] => K
  | .code b :: ks => thenK (wp call b (later call K ks)) (later call K ks)
  | .block id :: ks => blockK id (later call K ks)

section
variable (call : Call) (K : AX → St → Prop) (ks : List Fr) (e : Env) (H : AH)

/-- Code, then the rest. -/
def W0 (c : ACode) : Prop := wp call c (later call K ks) ⟨e, H⟩
/-- A region's operations, then the rest. -/
def Rg0 (is : List AIns) : Prop := wpR call (later call K ks) is e H
/-- The rest, from here on. -/
def Nx0 : Prop := later call K ks .nrm ⟨e, H⟩
def Ex0 (id : Nat) : Prop := later call K ks (.exit id) ⟨e, H⟩
def Rt0 : Prop := later call K ks .ret ⟨e, H⟩
def Cd0 (c : Arg) (a b : ACode) : AV → Prop
  | .bool t => (t = true → W0 call K ks (pushA e c true) H a) ∧ (t = false → W0 call K ks (pushA e c false) H b)
  | _ => False
def Ro0 (e' : Env) (is : List AIns) (dst : Option Nat) : Option (Out × AH) → Prop
  | none => False
  | some (.ok v, H') => Rg0 call K ks (putd e' dst v) H' is
  | some (.pan v, H') => later call K ks (.pan v) ⟨e, H'⟩
def Rf0 (is : List AIns) (dst : Option Nat) (op : AOp) (g : Nat) (b : Bool) : AV → Prop
  | .bool c => (c = b → Ro0 call K ks e ((g, .bool b) :: e) is dst (exe call e op H)) ∧ (c = (!b) → Rg0 call K ks (putd ((g, .bool (!b)) :: e) dst (.tup [])) H is)
  | .tup [] => Rg0 call K ks (putd ((g, .tup []) :: e) dst (.tup [])) H is
  | _ => False

theorem W0_skip : W0 call K ks e H .skip = Nx0 call K ks e H := rfl
theorem W0_seq (a b : ACode) : W0 call K ks e H (.seq a b) = W0 call K (.code b :: ks) e H a := rfl
theorem W0_block (id : Nat) (b : ACode) : W0 call K ks e H (.block id b) = W0 call K (.block id :: ks) e H b := rfl
theorem W0_exit (id : Nat) : W0 call K ks e H (.exit id) = Ex0 call K ks e H id := rfl
def kp (e : Env) : List Nat → Env
  | [] => []
  | t :: l => (t, e.at t) :: kp e l
theorem kp_eq (e : Env) (l : List Nat) : keep e (some l) = kp e l := by
  induction l with
  | nil => rfl
  | cons t l ih => simp only [kp, ← ih]; rfl
theorem W0_trim (l : List Nat) : W0 call K ks e H (.trim l) = Nx0 call K ks (kp e l) H := by
  rw [← kp_eq]; rfl
theorem W0_ret : W0 call K ks e H .ret = Rt0 call K ks e H := rfl
theorem W0_reg (is : List AIns) : W0 call K ks e H (.reg is) = Rg0 call K ks e H is := rfl
theorem W0_cond (c : Arg) (a b : ACode) : W0 call K ks e H (.cond c a b) = Cd0 call K ks e H c a b (c.val e) := by
  simp only [W0, wp]
  cases c.val e <;> rfl
theorem Cd0_bool (c : Arg) (a b : ACode) (t : Bool) : Cd0 call K ks e H c a b (.bool t) = ((t = true → W0 call K ks (pushA e c true) H a) ∧ (t = false → W0 call K ks (pushA e c false) H b)) := rfl
theorem Cd0_dec (c : Arg) (a b : ACode) (p : Prop) [Decidable p] : Cd0 call K ks e H c a b (.bool (decide p)) = ((p → W0 call K ks (pushA e c true) H a) ∧ (¬ p → W0 call K ks (pushA e c false) H b)) := by simp [Cd0]
theorem Cd0_beq {α : Type} [BEq α] [LawfulBEq α] (c : Arg) (a b : ACode) (x y : α) : Cd0 call K ks e H c a b (.bool (x == y)) = ((x = y → W0 call K ks (pushA e c true) H a) ∧ (¬ x = y → W0 call K ks (pushA e c false) H b)) := by simp [Cd0]
theorem Cd0_bne {α : Type} [BEq α] [LawfulBEq α] (c : Arg) (a b : ACode) (x y : α) : Cd0 call K ks e H c a b (.bool (x != y)) = ((x = y → W0 call K ks (pushA e c false) H b) ∧ (¬ x = y → W0 call K ks (pushA e c true) H a)) := by simp [Cd0]; exact And.comm
theorem Cd0_nbeq {α : Type} [BEq α] [LawfulBEq α] (c : Arg) (a b : ACode) (x y : α) : Cd0 call K ks e H c a b (.bool (!(x == y))) = ((x = y → W0 call K ks (pushA e c false) H b) ∧ (¬ x = y → W0 call K ks (pushA e c true) H a)) := by simp [Cd0]; exact And.comm
theorem Cd0_true (c : Arg) (a b : ACode) : Cd0 call K ks e H c a b (.bool true) = W0 call K ks (pushA e c true) H a := by simp [Cd0]
theorem Cd0_false (c : Arg) (a b : ACode) : Cd0 call K ks e H c a b (.bool false) = W0 call K ks (pushA e c false) H b := by simp [Cd0]
theorem Nx0_nil : Nx0 call K [] e H = K .nrm ⟨e, H⟩ := rfl
theorem Nx0_code (b : ACode) : Nx0 call K (.code b :: ks) e H = W0 call K ks e H b := rfl
theorem Nx0_block (id : Nat) : Nx0 call K (.block id :: ks) e H = Nx0 call K ks e H := rfl
theorem Ex0_nil (id : Nat) : Ex0 call K [] e H id = K (.exit id) ⟨e, H⟩ := rfl
theorem Ex0_code (id : Nat) (b : ACode) : Ex0 call K (.code b :: ks) e H id = Ex0 call K ks e H id := rfl
theorem Ex0_block (id j : Nat) : Ex0 call K (.block j :: ks) e H id = if id = j then Nx0 call K ks e H else Ex0 call K ks e H id := by
  simp only [Ex0, later, blockK]
  rfl
theorem Rt0_nil : Rt0 call K [] e H = K .ret ⟨e, H⟩ := rfl
theorem Rt0_code (b : ACode) : Rt0 call K (.code b :: ks) e H = Rt0 call K ks e H := rfl
theorem Rt0_block (id : Nat) : Rt0 call K (.block id :: ks) e H = Rt0 call K ks e H := rfl
theorem Rg0_nil : Rg0 call K ks e H [] = Nx0 call K ks e H := rfl
theorem Rg0_one (is : List AIns) (dst : Option Nat) (op : AOp) : Rg0 call K ks e H (⟨dst, op, .none⟩ :: is) = Ro0 call K ks e e is dst (exe call e op H) := by
  simp only [Rg0]
  rw [wpR_one]
  cases exe call e op H with
  | none => rfl
  | some p => obtain ⟨out, H'⟩ := p; cases out <;> rfl
theorem Rg0_if (is : List AIns) (dst : Option Nat) (op : AOp) (g : Nat) (b : Bool) : Rg0 call K ks e H (⟨dst, op, some (g, b)⟩ :: is) = Rf0 call K ks e H is dst op g b (e.at g) := by
  simp only [Rg0]
  rw [wpR_if]
  cases e.at g with
  | bool c =>
    simp only [Rf0, wpG]
    cases exe call e op H with
    | none => rfl
    | some p => obtain ⟨out, H'⟩ := p; cases out <;> rfl
  | tup vs => cases vs <;> rfl
  | _ => rfl
section
variable (e' : Env) (is : List AIns) (dst : Option Nat) (op : AOp) (g : Nat)
theorem Ro0_ok (v : AV) : Ro0 call K ks e e' is dst (some (.ok v, H)) = Rg0 call K ks (putd e' dst v) H is := rfl
theorem Rf0_bool (b c : Bool) : Rf0 call K ks e H is dst op g b (.bool c) = ((c = b → Ro0 call K ks e ((g, .bool b) :: e) is dst (exe call e op H)) ∧ (c = (!b) → Rg0 call K ks (putd ((g, .bool (!b)) :: e) dst (.tup [])) H is)) := rfl
theorem Rf0_dec (b : Bool) (p : Prop) [Decidable p] : Rf0 call K ks e H is dst op g b (.bool (decide p)) = ((p → Rf0 call K ks e H is dst op g b (.bool true)) ∧ (¬ p → Rf0 call K ks e H is dst op g b (.bool false))) := by
  by_cases h : p <;> simp [h]
theorem Rf0_beq {α : Type} [BEq α] [LawfulBEq α] (b : Bool) (x y : α) : Rf0 call K ks e H is dst op g b (.bool (x == y)) = ((x = y → Rf0 call K ks e H is dst op g b (.bool true)) ∧ (¬ x = y → Rf0 call K ks e H is dst op g b (.bool false))) := by
  by_cases h : x = y
  · subst h; simp
  · have : (x == y) = false := by simpa using h
    rw [this]; simp [h]
theorem Rf0_bne {α : Type} [BEq α] [LawfulBEq α] (b : Bool) (x y : α) : Rf0 call K ks e H is dst op g b (.bool (x != y)) = ((x = y → Rf0 call K ks e H is dst op g b (.bool false)) ∧ (¬ x = y → Rf0 call K ks e H is dst op g b (.bool true))) := by
  by_cases h : x = y
  · subst h; simp
  · have : (x == y) = false := by simpa using h
    simp only [bne, this]; simp [h]
theorem Rf0_nbeq {α : Type} [BEq α] [LawfulBEq α] (b : Bool) (x y : α) : Rf0 call K ks e H is dst op g b (.bool (!(x == y))) = ((x = y → Rf0 call K ks e H is dst op g b (.bool false)) ∧ (¬ x = y → Rf0 call K ks e H is dst op g b (.bool true))) := Rf0_bne call K ks e H is dst op g b x y
theorem Rf0_tt : Rf0 call K ks e H is dst op g true (.bool true) = Ro0 call K ks e ((g, .bool true) :: e) is dst (exe call e op H) := by simp [Rf0]
theorem Rf0_ff : Rf0 call K ks e H is dst op g false (.bool false) = Ro0 call K ks e ((g, .bool false) :: e) is dst (exe call e op H) := by simp [Rf0]
theorem Rf0_tf : Rf0 call K ks e H is dst op g true (.bool false) = Rg0 call K ks (putd ((g, .bool false) :: e) dst (.tup [])) H is := by simp [Rf0]
theorem Rf0_ft : Rf0 call K ks e H is dst op g false (.bool true) = Rg0 call K ks (putd ((g, .bool true) :: e) dst (.tup [])) H is := by simp [Rf0]
theorem Rf0_tup (b : Bool) : Rf0 call K ks e H is dst op g b (.tup []) = Rg0 call K ks (putd ((g, .tup []) :: e) dst (.tup [])) H is := rfl
end

theorem W0_loop {live : Option (List Nat)} {b : ACode} (h : W0 call K (.code (.loop live b) :: ks) (keep e live) H b) : W0 call K ks e H (.loop live b) := wp_loop h

theorem wp_W0 {c : ACode} (h : W0 call K [] e H c) : wp call c K ⟨e, H⟩ := h
end
end Go.Am

/- Rules for regions that draw their order. Conditions: a check of the region that is done once. -/
namespace Go.Am

def ua : Arg → List Nat
  | .t n => [n]
  | .c _ => []
def uoa : Option Arg → List Nat
  | some a => ua a
  | none => []
def uas : List Arg → List Nat
  | [] => []
  | a :: l => ua a ++ uas l
def ups : List (Nat × Nat × Arg) → List Nat
  | [] => []
  | (_, _, a) :: l => ua a ++ ups l

/-- The temporaries that an operation reads. -/
def uses : AOp → List Nat
  | .mov x => ua x
  | .pick c a b => ua c ++ (ua a ++ ua b)
  | .box _ x => ua x
  | .alloc _ _ => []
  | .ld1 a => ua a
  | .ldn _ a => ua a
  | .st _ a x => ua a ++ ua x
  | .bin _ x y => ua x ++ ua y
  | .eqv _ _ _ x y => ua x ++ ua y
  | .un _ x => ua x
  | .conv _ x => ua x
  | .s2b _ x => ua x
  | .b2s x => ua x
  | .fld _ _ x => ua x
  | .fa _ x => ua x
  | .ia _ x i => ua x ++ ua i
  | .iaa _ _ x i => ua x ++ ua i
  | .ids x i => ua x ++ ua i
  | .ida _ _ _ x i => ua x ++ ua i
  | .bld _ ps => ups ps
  | .bsl _ _ _ _ ps => ups ps
  | .sub x l h => ua x ++ (uoa l ++ uoa h)
  | .sls _ x l h m => ua x ++ (uoa l ++ (uoa h ++ uoa m))
  | .sla _ _ x l h m => ua x ++ (uoa l ++ (uoa h ++ uoa m))
  | .lens x => ua x
  | .lenl x => ua x
  | .cvs x => ua x
  | .app _ _ _ x y => ua x ++ ua y
  | .cpy _ x y => ua x ++ ua y
  | .mn x y => ua x ++ ua y
  | .mx x y => ua x ++ ua y
  | .mks _ _ _ _ l c => ua l ++ ua c
  | .ext _ x => ua x
  | .call _ as => uas as
  | .callv f as => ua f ++ uas as
  | .mkf _ cs => uas cs
  | .mki _ x => ua x
  | .ta _ _ _ x => ua x
  | .nlc x => ua x
  | .pan x => ua x
  | .tous x => ua x
  | .frus _ _ x => ua x
  | .usd x => ua x
  | .ustr _ x n => ua x ++ ua n
  | .cap x => ua x

section
variable {e e' : Env}

theorem ua_val {a : Arg} (h : ∀ t ∈ ua a, e.at t = e'.at t) : a.val e = a.val e' := by
  cases a with
  | t n => exact h n (by simp [ua])
  | c v => rfl

theorem uoa_val {a : Option Arg} (h : ∀ t ∈ uoa a, e.at t = e'.at t) : a.map (·.val e) = a.map (·.val e') := by
  cases a with
  | none => rfl
  | some a => simp only [Option.map_some]; rw [ua_val (fun t ht => h t ht)]

theorem uas_val : ∀ {l : List Arg}, (∀ t ∈ uas l, e.at t = e'.at t) → l.map (·.val e) = l.map (·.val e')
  | [], _ => rfl
  | a :: l, h => by
    simp only [List.map_cons]
    rw [ua_val (fun t ht => h t (by simp [uas, ht])), uas_val (fun t ht => h t (by simp [uas, ht]))]

theorem ups_val : ∀ {l : List (Nat × Nat × Arg)}, (∀ t ∈ ups l, e.at t = e'.at t) → (l.map fun (o, n, x) => (o, n, x.val e)) = l.map fun (o, n, x) => (o, n, x.val e')
  | [], _ => rfl
  | (o, n, a) :: l, h => by
    simp only [List.map_cons]
    rw [ua_val (fun t ht => h t (by simp [ups, ht])), ups_val (fun t ht => h t (by simp [ups, ht]))]

theorem exe_congr {call : Call} {op : AOp} {H : AH} (h : ∀ t ∈ uses op, e.at t = e'.at t) : exe call e op H = exe call e' op H := by
  cases op <;> simp only [uses, List.mem_append] at h
  case mov x => simp only [exe, ua_val h]
  case pick c a b => simp only [exe, ua_val (a := c) (fun t ht => h t (.inl ht)), ua_val (a := a) (fun t ht => h t (.inr (.inl ht))), ua_val (a := b) (fun t ht => h t (.inr (.inr ht)))]
  case alloc => rfl
  case bld z ps => simp only [exe]; rw [ups_val h]
  case bsl ty z l zero ps => simp only [exe]; rw [ups_val h]
  case sub x l hh => simp only [exe, ua_val (a := x) (fun t ht => h t (.inl ht)), uoa_val (a := l) (fun t ht => h t (.inr (.inl ht))), uoa_val (a := hh) (fun t ht => h t (.inr (.inr ht)))]
  case sla n z x l hh m => simp only [exe, ua_val (a := x) (fun t ht => h t (.inl ht)), uoa_val (a := l) (fun t ht => h t (.inr (.inl ht))), uoa_val (a := hh) (fun t ht => h t (.inr (.inr (.inl ht))))]
  case sls z x l hh m =>
    have h1 := ua_val (a := x) (fun t ht => h t (.inl ht))
    have h2 := uoa_val (a := l) (fun t ht => h t (.inr (.inl ht)))
    have h3 := uoa_val (a := hh) (fun t ht => h t (.inr (.inr (.inl ht))))
    cases m with
    | none => simp only [exe, h1, h2, h3]
    | some m =>
      have h4 := ua_val (a := m) (fun t ht => h t (.inr (.inr (.inr ht))))
      cases hh with
      | none => simp only [exe, h1, h2, h3, h4]
      | some hh =>
        have h5 := ua_val (a := hh) (fun t ht => h t (.inr (.inr (.inl ht))))
        simp only [exe, h1, h2, h4, h5]
  case call f as => simp only [exe]; rw [uas_val h]
  case callv f as => simp only [exe, ua_val (a := f) (fun t ht => h t (.inl ht)), uas_val (l := as) (fun t ht => h t (.inr ht))]
  case mkf f as => simp only [exe]; rw [uas_val h]
  all_goals first
    | (rename_i x; simp only [exe, ua_val (a := x) h]; done)
    | (rename_i x y; simp only [exe, ua_val (a := x) (fun t ht => h t (.inl ht)), ua_val (a := y) (fun t ht => h t (.inr ht))]; done)
end

def gu : Option (Nat × Bool) → List Nat
  | none => []
  | some (g, _) => [g]

/-- No operation reads what one that is not ordered with it writes. -/
def okD (is : List DIns) : Bool :=
  nodup (is.filterMap fun o => o.ins.dst) && is.zipIdx.all fun (o, j) => (o.late.all (j < ·)) && (uses o.ins.op ++ gu o.ins.guard).all fun t => is.zipIdx.all fun (p, k) => p.ins.dst != some t || o.deps.contains k || o.late.contains k || k == j

/-- What was done, as the environment of the text's order. -/
def doneEnv (done : List DRes) (e : Env) : Env := done.flatMap (fun r => match r.dst with | some d => [(d, r.v)] | none => []) ++ e

structure DInv (is : List DIns) (j : Nat) (done : List DRes) : Prop where
  mem : ∀ r, r ∈ done → r.j < j ∧ ∃ o, is[r.j]? = some o ∧ r.dst = o.ins.dst
  inj : ∀ r q, r ∈ done → q ∈ done → r.j = q.j → r = q
  all : ∀ (k : Nat) (o : DIns), k < j → is[k]? = some o → ∃ r ∈ done, r.j = k

theorem lk_cells_none {L : List DRes} {t : Nat} (h : ∀ r ∈ L, r.dst ≠ some t) : lk (L.flatMap (fun r => match r.dst with | some d => [(d, r.v)] | none => [])) t = none := by
  induction L with
  | nil => rfl
  | cons r L ih =>
    rw [List.flatMap_cons, lk_append, ih fun q hq => h q (by simp [hq])]
    have := h r (by simp)
    cases hd : r.dst with
    | none => rfl
    | some d =>
      have : d ≠ t := fun e => this (by rw [hd, e])
      simp [lk, this]

/-- The environment that an operation sees, and the environment of the text's order, tell the same of what it reads. -/
theorem dEnv_plain {is : List DIns} {j : Nat} {o : DIns} {done : List DRes} {e : Env} (hok : okD is = true) (ho : is[j]? = some o) (hi : DInv is j done)
    {t : Nat} (ht : t ∈ uses o.ins.op ++ gu o.ins.guard) : (dEnv done is o.deps o.late j e).at t = (doneEnv done e).at t := by
  unfold okD at hok
  rw [Bool.and_eq_true, List.all_eq_true] at hok
  have h1 := hok.2 (o, j) (by rw [List.mem_iff_getElem?]; exact ⟨j, by simp [List.getElem?_zipIdx, ho]⟩)
  simp only [Bool.and_eq_true, List.all_eq_true] at h1
  have hlate : ∀ k, k ∈ o.late → ¬ k < j := fun k hk => by
    have := h1.1 k hk
    simp at this
    omega
  have hnod : ∀ (a b : Nat) (p q : DIns) (t : Nat), is[a]? = some p → is[b]? = some q → p.ins.dst = some t → q.ins.dst = some t → a = b := fun a b p q t ha hb h2 h3 => nodup_filterMap hok.1 ha hb h2 h3
  have hchk : ∀ (k : Nat) (p : DIns), is[k]? = some p → p.ins.dst = some t → k ∈ o.deps ∨ k ∈ o.late ∨ k = j := fun k p hk hd => by
    have h2 := h1.2 t ht (p, k) (by rw [List.mem_iff_getElem?]; exact ⟨k, by simp [List.getElem?_zipIdx, hk]⟩)
    simp only [Bool.or_eq_true, bne_iff_ne, ne_eq, beq_iff_eq, List.contains_iff_mem] at h2
    rcases h2 with ((h2 | h2) | h2) | h2
    · exact absurd hd h2
    · exact .inl h2
    · exact .inr (.inl h2)
    · exact .inr (.inr h2)
  have hmask : lk (((is.zipIdx).filter fun (q, k) => !(o.deps.contains k) && !(o.late.contains k) && k != j).flatMap fun (q, _) => match q.ins.dst with | some d => [(d, AV.undef)] | none => []) t = none := by
    have : ∀ x ∈ (is.zipIdx).filter fun (q, k) => !(o.deps.contains k) && !(o.late.contains k) && k != j, x.1.ins.dst ≠ some t := by
      rintro ⟨q, k⟩ hx hd
      rw [List.mem_filter] at hx
      obtain ⟨hx1, hx2⟩ := hx
      have hk : is[k]? = some q := by
        rw [List.mem_iff_getElem?] at hx1
        obtain ⟨m, hm⟩ := hx1
        rw [List.getElem?_zipIdx] at hm
        cases hm2 : is[m]? with
        | none => rw [hm2] at hm; cases hm
        | some d => rw [hm2] at hm; simp at hm; obtain ⟨rfl, rfl⟩ := hm; exact hm2
      simp only [Bool.and_eq_true, Bool.not_eq_true', bne_iff_ne, ne_eq] at hx2
      rcases hchk k q hk hd with h' | h' | h'
      · have : o.deps.contains k = true := by simpa using h'
        rw [this] at hx2; simp at hx2
      · have : o.late.contains k = true := by simpa using h'
        rw [this] at hx2; simp at hx2
      · exact hx2.2 h'
    revert this
    induction (is.zipIdx).filter fun (q, k) => !(o.deps.contains k) && !(o.late.contains k) && k != j with
    | nil => intro _; rfl
    | cons x L ih =>
      intro hx
      rw [List.flatMap_cons, lk_append, ih fun y hy => hx y (by simp [hy])]
      have := hx x (by simp)
      obtain ⟨q, k⟩ := x
      cases hd : q.ins.dst with
      | none => simp [hd, lk]
      | some d =>
        have : d ≠ t := fun e => this (by simp [hd, e])
        simp [hd, lk, this]
  unfold dEnv doneEnv Env.at
  rw [List.append_assoc, lk_append, lk_append, lk_append]
  erw [hmask]
  rw [Option.none_or]
  by_cases hex : ∃ r ∈ done, r.dst = some t
  · obtain ⟨r, hr, hrd⟩ := hex
    obtain ⟨hrj, p, hp, hpd⟩ := hi.mem r hr
    have huniq : ∀ q ∈ done, q.dst = some t → q = r := fun q hq hqd => by
      obtain ⟨_, p', hp', hpd'⟩ := hi.mem q hq
      exact hi.inj q r hq hr (hnod q.j r.j p' p t hp' hp (by rw [← hpd']; exact hqd) (by rw [← hpd]; exact hrd))
    have hdep : r.j ∈ o.deps := by
      rcases hchk r.j p hp (by rw [← hpd]; exact hrd) with h' | h' | h'
      · exact h'
      · exact absurd hrj (hlate r.j h')
      · omega
    have look : ∀ L : List DRes, (∀ q ∈ L, q ∈ done) → r ∈ L → lk (L.flatMap (fun r => match r.dst with | some d => [(d, r.v)] | none => [])) t = some r.v := by
      intro L
      induction L with
      | nil => intro _ h; cases h
      | cons q L ih =>
        intro hsub hmem
        rw [List.flatMap_cons, lk_append]
        by_cases hqd : q.dst = some t
        · have := huniq q (hsub q (by simp)) hqd
          subst this
          simp [hqd, lk]
        · have hrL : r ∈ L := by
            rcases List.mem_cons.1 hmem with e | e
            · subst e; exact absurd hrd hqd
            · exact e
          rw [ih (fun x hx => hsub x (by simp [hx])) hrL]
          cases hd : q.dst with
          | none => simp [lk]
          | some d =>
            have : d ≠ t := fun e => hqd (by rw [hd, e])
            simp [lk, this]
    erw [look _ (fun q hq => (List.mem_filter.1 hq).1) (List.mem_filter.2 ⟨hr, by simpa using hdep⟩), look done (fun q hq => hq) hr]
  · have hno : ∀ r ∈ done, r.dst ≠ some t := fun r hr hrd => hex ⟨r, hr, hrd⟩
    erw [lk_cells_none (fun r hr => hno r (List.mem_filter.1 hr).1), lk_cells_none hno]

def visH (kind : Nat) (deps : List Nat) (base : AH) (seg : List (Nat × List (Nat × Blk))) (next : Nat) : AH :=
  match kind with
  | 0 => ⟨[], next, next⟩
  | 1 => ⟨(seg.filter fun r => deps.contains r.1).flatMap (·.2) ++ base.blks, next, next⟩
  | _ => ⟨seg.flatMap (·.2) ++ base.blks, next, base.floor⟩

/-- The operations of a drawing region, in the text's order, then the rest with the temporaries of l. -/
def Dg0 (call : Call) (K : AX → St → Prop) (ks : List Fr) (l : List Nat) : List DIns → Nat → Env → AH → List (Nat × List (Nat × Blk)) → Nat → Prop
  | [], _, e, base, seg, next => Nx0 call K ks (kp e l) { base with blks := seg.flatMap (·.2) ++ base.blks, next := next }
  | o :: os, j, e, base, seg, next => match o.ins.guard with
    | none => match exe call e o.ins.op (visH o.kind o.deps base seg next) with
      | some (.ok v, H1) => match o.kind with
        | 0 => H1.next = next ∧ Dg0 call K ks l os (j + 1) (putd e o.ins.dst v) base seg next
        | 1 => Dg0 call K ks l os (j + 1) (putd e o.ins.dst v) base ((j, newBlks H1.blks next) :: seg) H1.next
        | _ => Dg0 call K ks l os (j + 1) (putd e o.ins.dst v) H1 [] H1.next
      | _ => False
    | some (g, b) => match e.at g with
      | .bool c => (c = b → match exe call e o.ins.op (visH o.kind o.deps base seg next) with
          | some (.ok v, H1) => match o.kind with
            | 0 => H1.next = next ∧ Dg0 call K ks l os (j + 1) (putd ((g, .bool b) :: e) o.ins.dst v) base seg next
            | 1 => Dg0 call K ks l os (j + 1) (putd ((g, .bool b) :: e) o.ins.dst v) base ((j, newBlks H1.blks next) :: seg) H1.next
            | _ => Dg0 call K ks l os (j + 1) (putd ((g, .bool b) :: e) o.ins.dst v) H1 [] H1.next
          | _ => False) ∧ (c = (!b) → Dg0 call K ks l os (j + 1) (putd ((g, .bool (!b)) :: e) o.ins.dst (.tup [])) base seg next)
      | .tup [] => Dg0 call K ks l os (j + 1) (putd ((g, .tup []) :: e) o.ins.dst (.tup [])) base seg next
      | _ => False

def Do0 (call : Call) (K : AX → St → Prop) (ks : List Fr) (l : List Nat) (os : List DIns) (j : Nat) (e' : Env) (base : AH) (seg : List (Nat × List (Nat × Blk))) (next : Nat) (dst : Option Nat) (kind : Nat) : Option (Out × AH) → Prop
  | some (.ok v, H1) => match kind with
    | 0 => H1.next = next ∧ Dg0 call K ks l os (j + 1) (putd e' dst v) base seg next
    | 1 => Dg0 call K ks l os (j + 1) (putd e' dst v) base ((j, newBlks H1.blks next) :: seg) H1.next
    | _ => Dg0 call K ks l os (j + 1) (putd e' dst v) H1 [] H1.next
  | _ => False

def Df0 (call : Call) (K : AX → St → Prop) (ks : List Fr) (l : List Nat) (os : List DIns) (j : Nat) (e : Env) (base : AH) (seg : List (Nat × List (Nat × Blk))) (next : Nat) (dst : Option Nat) (kind : Nat) (op : AOp) (deps : List Nat) (g : Nat) (b : Bool) : AV → Prop
  | .bool c => (c = b → Do0 call K ks l os j ((g, .bool b) :: e) base seg next dst kind (exe call e op (visH kind deps base seg next))) ∧ (c = (!b) → Dg0 call K ks l os (j + 1) (putd ((g, .bool (!b)) :: e) dst (.tup [])) base seg next)
  | .tup [] => Dg0 call K ks l os (j + 1) (putd ((g, .tup []) :: e) dst (.tup [])) base seg next
  | _ => False

section
variable (call : Call) (K : AX → St → Prop) (ks : List Fr) (l : List Nat) (os : List DIns) (j : Nat) (e e' : Env) (base : AH) (seg : List (Nat × List (Nat × Blk))) (next : Nat) (dst : Option Nat) (kind : Nat) (op : AOp) (deps late : List Nat) (g : Nat)

theorem Dg0_nil : Dg0 call K ks l [] j e base seg next = Nx0 call K ks (kp e l) { base with blks := seg.flatMap (·.2) ++ base.blks, next := next } := rfl
theorem Dg0_one : Dg0 call K ks l (⟨⟨dst, op, .none⟩, deps, late, kind⟩ :: os) j e base seg next = Do0 call K ks l os j e base seg next dst kind (exe call e op (visH kind deps base seg next)) := by
  simp only [Dg0]
  cases exe call e op (visH kind deps base seg next) with
  | none => rfl
  | some p => obtain ⟨out, H'⟩ := p; cases out <;> rfl
theorem Dg0_if (b : Bool) : Dg0 call K ks l (⟨⟨dst, op, some (g, b)⟩, deps, late, kind⟩ :: os) j e base seg next = Df0 call K ks l os j e base seg next dst kind op deps g b (e.at g) := by
  simp only [Dg0]
  cases e.at g with
  | bool c =>
    simp only [Df0]
    cases exe call e op (visH kind deps base seg next) with
    | none => rfl
    | some p => obtain ⟨out, H'⟩ := p; cases out <;> rfl
  | tup vs => cases vs <;> rfl
  | _ => rfl
theorem Do0_0 (v : AV) (H1 : AH) : Do0 call K ks l os j e' base seg next dst 0 (some (.ok v, H1)) = (H1.next = next ∧ Dg0 call K ks l os (j + 1) (putd e' dst v) base seg next) := rfl
theorem Do0_1 (v : AV) (H1 : AH) : Do0 call K ks l os j e' base seg next dst 1 (some (.ok v, H1)) = Dg0 call K ks l os (j + 1) (putd e' dst v) base ((j, newBlks H1.blks next) :: seg) H1.next := rfl
theorem Do0_2 (v : AV) (H1 : AH) : Do0 call K ks l os j e' base seg next dst 2 (some (.ok v, H1)) = Dg0 call K ks l os (j + 1) (putd e' dst v) H1 [] H1.next := rfl
theorem Df0_tt : Df0 call K ks l os j e base seg next dst kind op deps g true (.bool true) = Do0 call K ks l os j ((g, .bool true) :: e) base seg next dst kind (exe call e op (visH kind deps base seg next)) := by simp [Df0]
theorem Df0_ff : Df0 call K ks l os j e base seg next dst kind op deps g false (.bool false) = Do0 call K ks l os j ((g, .bool false) :: e) base seg next dst kind (exe call e op (visH kind deps base seg next)) := by simp [Df0]
theorem Df0_tf : Df0 call K ks l os j e base seg next dst kind op deps g true (.bool false) = Dg0 call K ks l os (j + 1) (putd ((g, .bool false) :: e) dst (.tup [])) base seg next := by simp [Df0]
theorem Df0_ft : Df0 call K ks l os j e base seg next dst kind op deps g false (.bool true) = Dg0 call K ks l os (j + 1) (putd ((g, .bool true) :: e) dst (.tup [])) base seg next := by simp [Df0]
theorem Df0_tup (b : Bool) : Df0 call K ks l os j e base seg next dst kind op deps g b (.tup []) = Dg0 call K ks l os (j + 1) (putd ((g, .tup []) :: e) dst (.tup [])) base seg next := rfl
theorem Df0_dec (b : Bool) (p : Prop) [Decidable p] : Df0 call K ks l os j e base seg next dst kind op deps g b (.bool (decide p)) = ((p → Df0 call K ks l os j e base seg next dst kind op deps g b (.bool true)) ∧ (¬ p → Df0 call K ks l os j e base seg next dst kind op deps g b (.bool false))) := by
  by_cases h : p <;> simp [h]
theorem Df0_beq {α : Type} [BEq α] [LawfulBEq α] (b : Bool) (x y : α) : Df0 call K ks l os j e base seg next dst kind op deps g b (.bool (x == y)) = ((x = y → Df0 call K ks l os j e base seg next dst kind op deps g b (.bool true)) ∧ (¬ x = y → Df0 call K ks l os j e base seg next dst kind op deps g b (.bool false))) := by
  by_cases h : x = y
  · subst h; simp
  · have : (x == y) = false := by simpa using h
    rw [this]; simp [h]
theorem Df0_bne {α : Type} [BEq α] [LawfulBEq α] (b : Bool) (x y : α) : Df0 call K ks l os j e base seg next dst kind op deps g b (.bool (x != y)) = ((x = y → Df0 call K ks l os j e base seg next dst kind op deps g b (.bool false)) ∧ (¬ x = y → Df0 call K ks l os j e base seg next dst kind op deps g b (.bool true))) := by
  by_cases h : x = y
  · subst h; simp
  · have : (x == y) = false := by simpa using h
    simp only [bne, this]; simp [h]
theorem Df0_nbeq {α : Type} [BEq α] [LawfulBEq α] (b : Bool) (x y : α) : Df0 call K ks l os j e base seg next dst kind op deps g b (.bool (!(x == y))) = ((x = y → Df0 call K ks l os j e base seg next dst kind op deps g b (.bool false)) ∧ (¬ x = y → Df0 call K ks l os j e base seg next dst kind op deps g b (.bool true))) := Df0_bne call K ks l os j e base seg next dst kind op deps g b x y
theorem newBlks_cons (i : Nat) (b : Blk) (bs : List (Nat × Blk)) (n : Nat) : newBlks ((i, b) :: bs) n = if n ≤ i then (i, b) :: newBlks bs n else newBlks bs n := by
  unfold newBlks
  by_cases h : n ≤ i <;> simp [h]
theorem newBlks_nil (n : Nat) : newBlks [] n = [] := rfl
end

theorem at_putd {e e2 : Env} (h : ∀ t, e.at t = e2.at t) (d : Option Nat) (v : AV) (t : Nat) : (putd e d v).at t = (putd e2 d v).at t := by
  cases d with
  | none => exact h t
  | some d =>
    by_cases hd : d = t
    · simp [putd, Env.at, lk, hd]
    · have := h t
      simpa [putd, Env.at, lk, hd] using this

theorem at_push {e : Env} {g : Nat} {v : AV} (h : e.at g = v) (t : Nat) : Env.at ((g, v) :: e) t = e.at t := by
  by_cases hd : g = t
  · subst hd; simp [Env.at, lk]; simpa [Env.at] using h.symm
  · simp [Env.at, lk, hd]

theorem kp_congr {e e2 : Env} (h : ∀ t, e.at t = e2.at t) : ∀ l, kp e l = kp e2 l
  | [] => rfl
  | t :: l => by simp only [kp, h t, kp_congr h l]

theorem Dg0_sound {call : Call} {K : AX → St → Prop} {ks : List Fr} {l : List Nat} {is : List DIns} {e0 : Env} (hok : okD is = true) : ∀ (os : List DIns) (j : Nat) (e : Env) (base : AH) (segR : List DRes) (next : Nat) (done : List DRes),
    (∀ (k : Nat), os[k]? = is[j + k]?) → DInv is j done → (∀ t, e.at t = (doneEnv done e0).at t) → Dg0 call K ks l os j e base (segR.map fun r => (r.j, r.new)) next →
    ∃ t', runD call is e0 os j ⟨done, base, segR, next⟩ = some t' ∧ Nx0 call K ks (kp (doneEnv t'.done e0) l) { t'.base with blks := t'.seg.flatMap (·.new) ++ t'.base.blks, next := t'.next }
  | [], j, e, base, segR, next, done, _, hi, he, h => by
    refine ⟨_, rfl, ?_⟩
    rw [Dg0_nil, kp_congr he, List.flatMap_map] at h
    exact h
  | ⟨⟨dst, op, gd⟩, deps, late, kind⟩ :: os, j, e, base, segR, next, done, hos, hi, he, h => by
    have ho : is[j]? = some ⟨⟨dst, op, gd⟩, deps, late, kind⟩ := by have := hos 0; simpa using this.symm
    have hos' : ∀ k, os[k]? = is[j + 1 + k]? := fun k => by have := hos (k + 1); rw [show j + 1 + k = j + (k + 1) by omega]; simpa using this
    have hat : ∀ t, t ∈ uses op ++ gu gd → (dEnv done is deps late j e0).at t = e.at t := fun t ht => by
      rw [he t]
      exact dEnv_plain (o := ⟨⟨dst, op, gd⟩, deps, late, kind⟩) hok ho hi ht
    have hexe : ∀ H, exe call (dEnv done is deps late j e0) op H = exe call e op H := fun H => exe_congr fun t ht => hat t (by simp [ht])
    have hwant : want (dEnv done is deps late j e0) gd = want e gd := by
      cases gd with
      | none => rfl
      | some p =>
        obtain ⟨g, b⟩ := p
        simp only [want]
        rw [hat g (by simp [gu])]
    have hnext : ∀ (v : AV) (new : List (Nat × Blk)), DInv is (j + 1) (⟨j, dst, v, new⟩ :: done) := fun v new => by
      refine ⟨fun r hr => ?_, fun r q hr hq hrq => ?_, fun k o hk hok => ?_⟩
      · rcases List.mem_cons.1 hr with rfl | hr
        · exact ⟨Nat.lt_succ_self _, _, ho, rfl⟩
        · obtain ⟨a, b⟩ := hi.mem r hr; exact ⟨by omega, b⟩
      · rcases List.mem_cons.1 hr with rfl | hr <;> rcases List.mem_cons.1 hq with rfl | hq
        · rfl
        · have := (hi.mem q hq).1; simp at hrq; omega
        · have := (hi.mem r hr).1; simp at hrq; omega
        · exact hi.inj r q hr hq hrq
      · by_cases e : k = j
        · subst e; exact ⟨_, List.mem_cons_self .., rfl⟩
        · obtain ⟨r, hr, hrj⟩ := hi.all k o (by omega) hok; exact ⟨r, by simp [hr], hrj⟩
    have henv : ∀ (e' : Env) (v : AV) (new : List (Nat × Blk)), (∀ t, e'.at t = e.at t) → ∀ t, (putd e' dst v).at t = (doneEnv (⟨j, dst, v, new⟩ :: done) e0).at t := fun e' v new h1 t => by
      have h2 := at_putd (e := e') (e2 := doneEnv done e0) (fun t => (h1 t).trans (he t)) dst v t
      rw [h2]
      cases dst <;> rfl
    have hgo : ∀ e', (∀ t, e'.at t = e.at t) → want e gd = some true → Do0 call K ks l os j e' base (segR.map fun r => (r.j, r.new)) next dst kind (exe call e op (visH kind deps base (segR.map fun r => (r.j, r.new)) next)) →
        ∃ t', runD call is e0 (⟨⟨dst, op, gd⟩, deps, late, kind⟩ :: os) j ⟨done, base, segR, next⟩ = some t' ∧ Nx0 call K ks (kp (doneEnv t'.done e0) l) { t'.base with blks := t'.seg.flatMap (·.new) ++ t'.base.blks, next := t'.next } := by
      intro e' h1 hw hdo
      have hvis1 : ((segR.map fun r => (r.j, r.new)).filter fun r => deps.contains r.1).flatMap (·.2) = (segR.filter fun r => deps.contains r.j).flatMap (·.new) := by
        rw [List.filter_map, List.flatMap_map]; rfl
      have hvis2 : (segR.map fun r => (r.j, r.new)).flatMap (·.2) = segR.flatMap (·.new) := by rw [List.flatMap_map]
      by_cases k0 : kind = 0
      · subst k0
        cases hx : exe call e op (visH 0 deps base (segR.map fun r => (r.j, r.new)) next) with
        | none => rw [hx] at hdo; exact hdo.elim
        | some p =>
          obtain ⟨out, H1⟩ := p
          rw [hx] at hdo
          cases out with
          | pan v => exact hdo.elim
          | ok v =>
            obtain ⟨hn, hdo⟩ := hdo
            obtain ⟨t', a1, a2⟩ := Dg0_sound hok os (j + 1) _ base segR next (⟨j, dst, v, []⟩ :: done) hos' (hnext v []) (henv e' v [] h1) hdo
            refine ⟨t', ?_, a2⟩
            have : stepD call is e0 ⟨⟨dst, op, gd⟩, deps, late, 0⟩ j ⟨done, base, segR, next⟩ = some ⟨⟨j, dst, v, []⟩ :: done, base, segR, next⟩ := by
              simp only [stepD, hwant, hw, hexe, if_true]
              have hx' : exe call e op ⟨[], next, next⟩ = some (.ok v, H1) := hx
              rw [hx']
              simp [hn]
            simp only [runD, this]
            exact a1
      · by_cases k1 : kind = 1
        · subst k1
          cases hx : exe call e op (visH 1 deps base (segR.map fun r => (r.j, r.new)) next) with
          | none => rw [hx] at hdo; exact hdo.elim
          | some p =>
            obtain ⟨out, H1⟩ := p
            rw [hx] at hdo
            cases out with
            | pan v => exact hdo.elim
            | ok v =>
              have hdo' : Dg0 call K ks l os (j + 1) (putd e' dst v) base ((j, newBlks H1.blks next) :: segR.map fun r => (r.j, r.new)) H1.next := hdo
              obtain ⟨t', a1, a2⟩ := Dg0_sound hok os (j + 1) _ base (⟨j, dst, v, newBlks H1.blks next⟩ :: segR) H1.next (⟨j, dst, v, newBlks H1.blks next⟩ :: done) hos' (hnext v _) (henv e' v _ h1) hdo'
              refine ⟨t', ?_, a2⟩
              have : stepD call is e0 ⟨⟨dst, op, gd⟩, deps, late, 1⟩ j ⟨done, base, segR, next⟩ = some ⟨⟨j, dst, v, newBlks H1.blks next⟩ :: done, base, ⟨j, dst, v, newBlks H1.blks next⟩ :: segR, H1.next⟩ := by
                simp only [stepD, hwant, hw, hexe]
                have hx' : exe call e op ⟨(segR.filter fun r => deps.contains r.j).flatMap (·.new) ++ base.blks, next, next⟩ = some (.ok v, H1) := by rw [← hvis1]; exact hx
                rw [hx']
                rfl
              simp only [runD, this]
              exact a1
        · cases hx : exe call e op (visH kind deps base (segR.map fun r => (r.j, r.new)) next) with
          | none => rw [hx] at hdo; exact hdo.elim
          | some p =>
            obtain ⟨out, H1⟩ := p
            rw [hx] at hdo
            cases out with
            | pan v => exact hdo.elim
            | ok v =>
              have hdo' : Dg0 call K ks l os (j + 1) (putd e' dst v) H1 [] H1.next := by
                match kind, k0, k1, hdo with
                | k + 2, _, _, hdo => exact hdo
              obtain ⟨t', a1, a2⟩ := Dg0_sound hok os (j + 1) _ H1 [] H1.next (⟨j, dst, v, []⟩ :: done) hos' (hnext v _) (henv e' v _ h1) hdo'
              refine ⟨t', ?_, a2⟩
              have : stepD call is e0 ⟨⟨dst, op, gd⟩, deps, late, kind⟩ j ⟨done, base, segR, next⟩ = some ⟨⟨j, dst, v, []⟩ :: done, H1, [], H1.next⟩ := by
                simp only [stepD, hwant, hw, hexe, k0, k1, if_false]
                have hx' : exe call e op ⟨segR.flatMap (·.new) ++ base.blks, next, base.floor⟩ = some (.ok v, H1) := by
                  rw [← hvis2]
                  match kind, k0, k1, hx with
                  | k + 2, _, _, hx => exact hx
                rw [hx']
              simp only [runD, this]
              exact a1
    have hskip : ∀ e', (∀ t, e'.at t = e.at t) → want e gd = some false → Dg0 call K ks l os (j + 1) (putd e' dst (.tup [])) base (segR.map fun r => (r.j, r.new)) next →
        ∃ t', runD call is e0 (⟨⟨dst, op, gd⟩, deps, late, kind⟩ :: os) j ⟨done, base, segR, next⟩ = some t' ∧ Nx0 call K ks (kp (doneEnv t'.done e0) l) { t'.base with blks := t'.seg.flatMap (·.new) ++ t'.base.blks, next := t'.next } := by
      intro e' h1 hw hdo
      obtain ⟨t', a1, a2⟩ := Dg0_sound hok os (j + 1) _ base segR next (⟨j, dst, .tup [], []⟩ :: done) hos' (hnext _ _) (henv e' _ _ h1) hdo
      refine ⟨t', ?_, a2⟩
      have : stepD call is e0 ⟨⟨dst, op, gd⟩, deps, late, kind⟩ j ⟨done, base, segR, next⟩ = some ⟨⟨j, dst, .tup [], []⟩ :: done, base, segR, next⟩ := by
        simp only [stepD, hwant, hw]
      simp only [runD, this]
      exact a1
    cases gd with
    | none => rw [Dg0_one] at h; exact hgo e (fun _ => rfl) rfl h
    | some gb =>
      obtain ⟨g, b⟩ := gb
      rw [Dg0_if] at h
      cases hc : e.at g with
      | bool c =>
        rw [hc] at h
        by_cases hcb : c = b
        · exact hgo _ (fun t => at_push (by rw [hc, hcb]) t) (by simp [want, hc, hcb]) (h.1 hcb)
        · have hc' : c = !b := by cases c <;> cases b <;> simp_all
          exact hskip _ (fun t => at_push (by rw [hc, hc']) t) (by simp [want, hc, hc']) (h.2 hc')
      | tup vs =>
        rw [hc] at h
        cases vs with
        | nil => exact hskip _ (fun t => at_push hc t) (by simp [want, hc]) h
        | cons _ _ => exact h.elim
      | _ => rw [hc] at h; exact h.elim

/-- A region that draws its order. -/
theorem W0_drawn {call : Call} {K : AX → St → Prop} {ks : List Fr} {l : List Nat} {is : List DIns} {e : Env} {H : AH} (hok : okD is = true) (h : Dg0 call K ks l is 0 e H [] H.next) : W0 call K ks e H (.seq (.regd is) (.trim l)) := by
  obtain ⟨t', a1, a2⟩ := Dg0_sound hok is 0 e H [] H.next [] (fun k => by rw [Nat.zero_add]) ⟨fun r hr => (by cases hr), fun r q hr => (by cases hr), fun k o hk => (by omega)⟩ (fun t => rfl) h
  rw [W0_seq]
  have hrun : runDr call is ⟨e, H⟩ = some (.nrm, ⟨doneEnv t'.done e, { t'.base with blks := t'.seg.flatMap (·.new) ++ t'.base.blks, next := t'.next }⟩) := by
    simp only [runDr, a1]
    rfl
  refine ⟨.nrm, _, hrun, ?_⟩
  have : W0 call K ks (doneEnv t'.done e) { t'.base with blks := t'.seg.flatMap (·.new) ++ t'.base.blks, next := t'.next } (.trim l) := by
    rw [W0_trim]; exact a2
  exact this

theorem W0_drawn' {call : Call} {K : AX → St → Prop} {ks : List Fr} {l : List Nat} {is : List DIns} {e : Env} {H : AH} (hok : okD is = true) (h : Dg0 call K ks l is 0 e H [] H.next) : W0 call K (.code (.trim l) :: ks) e H (.regd is) := by
  rw [← W0_seq]
  exact W0_drawn hok h

/-! ## The judgements as structures: the kernel does not look into them -/

structure W (call : Call) (K : AX → St → Prop) (ks : List Fr) (e : Env) (H : AH) (c : ACode) : Prop where
  h : W0 call K ks e H c
structure Rg (call : Call) (K : AX → St → Prop) (ks : List Fr) (e : Env) (H : AH) (is : List AIns) : Prop where
  h : Rg0 call K ks e H is
structure Nx (call : Call) (K : AX → St → Prop) (ks : List Fr) (e : Env) (H : AH) : Prop where
  h : Nx0 call K ks e H
structure Ex (call : Call) (K : AX → St → Prop) (ks : List Fr) (e : Env) (H : AH) (id : Nat) : Prop where
  h : Ex0 call K ks e H id
structure Rt (call : Call) (K : AX → St → Prop) (ks : List Fr) (e : Env) (H : AH) : Prop where
  h : Rt0 call K ks e H
structure Cd (call : Call) (K : AX → St → Prop) (ks : List Fr) (e : Env) (H : AH) (c : Arg) (a b : ACode) (v : AV) : Prop where
  h : Cd0 call K ks e H c a b v
structure Ro (call : Call) (K : AX → St → Prop) (ks : List Fr) (e e' : Env) (is : List AIns) (dst : Option Nat) (r : Option (Out × AH)) : Prop where
  h : Ro0 call K ks e e' is dst r
structure Rf (call : Call) (K : AX → St → Prop) (ks : List Fr) (e : Env) (H : AH) (is : List AIns) (dst : Option Nat) (op : AOp) (g : Nat) (b : Bool) (v : AV) : Prop where
  h : Rf0 call K ks e H is dst op g b v
structure Dg (call : Call) (K : AX → St → Prop) (ks : List Fr) (l : List Nat) (os : List DIns) (j : Nat) (e : Env) (base : AH) (seg : List (Nat × List (Nat × Blk))) (next : Nat) : Prop where
  h : Dg0 call K ks l os j e base seg next
structure Do (call : Call) (K : AX → St → Prop) (ks : List Fr) (l : List Nat) (os : List DIns) (j : Nat) (e' : Env) (base : AH) (seg : List (Nat × List (Nat × Blk))) (next : Nat) (dst : Option Nat) (kind : Nat) (r : Option (Out × AH)) : Prop where
  h : Do0 call K ks l os j e' base seg next dst kind r
structure Df (call : Call) (K : AX → St → Prop) (ks : List Fr) (l : List Nat) (os : List DIns) (j : Nat) (e : Env) (base : AH) (seg : List (Nat × List (Nat × Blk))) (next : Nat) (dst : Option Nat) (kind : Nat) (op : AOp) (deps : List Nat) (g : Nat) (b : Bool) (v : AV) : Prop where
  h : Df0 call K ks l os j e base seg next dst kind op deps g b v
theorem W_eq {call K ks e H c} : W call K ks e H c = W0 call K ks e H c := propext ⟨fun x => x.h, fun x => ⟨x⟩⟩
theorem Rg_eq {call K ks e H is} : Rg call K ks e H is = Rg0 call K ks e H is := propext ⟨fun x => x.h, fun x => ⟨x⟩⟩
theorem Nx_eq {call K ks e H} : Nx call K ks e H = Nx0 call K ks e H := propext ⟨fun x => x.h, fun x => ⟨x⟩⟩
theorem Ex_eq {call K ks e H id} : Ex call K ks e H id = Ex0 call K ks e H id := propext ⟨fun x => x.h, fun x => ⟨x⟩⟩
theorem Rt_eq {call K ks e H} : Rt call K ks e H = Rt0 call K ks e H := propext ⟨fun x => x.h, fun x => ⟨x⟩⟩
theorem Cd_eq {call K ks e H c a b v} : Cd call K ks e H c a b v = Cd0 call K ks e H c a b v := propext ⟨fun x => x.h, fun x => ⟨x⟩⟩
theorem Ro_eq {call K ks e e' is dst r} : Ro call K ks e e' is dst r = Ro0 call K ks e e' is dst r := propext ⟨fun x => x.h, fun x => ⟨x⟩⟩
theorem Rf_eq {call K ks e H is dst op g b v} : Rf call K ks e H is dst op g b v = Rf0 call K ks e H is dst op g b v := propext ⟨fun x => x.h, fun x => ⟨x⟩⟩
theorem Dg_eq {call K ks l os j e base seg next} : Dg call K ks l os j e base seg next = Dg0 call K ks l os j e base seg next := propext ⟨fun x => x.h, fun x => ⟨x⟩⟩
theorem Do_eq {call K ks l os j e' base seg next dst kind r} : Do call K ks l os j e' base seg next dst kind r = Do0 call K ks l os j e' base seg next dst kind r := propext ⟨fun x => x.h, fun x => ⟨x⟩⟩
theorem Df_eq {call K ks l os j e base seg next dst kind op deps g b v} : Df call K ks l os j e base seg next dst kind op deps g b v = Df0 call K ks l os j e base seg next dst kind op deps g b v := propext ⟨fun x => x.h, fun x => ⟨x⟩⟩

section
variable (call : Call) (K : AX → St → Prop) (ks : List Fr) (e : Env) (H : AH) (e' : Env) (is : List AIns) (dst : Option Nat) (op : AOp) (g : Nat)
theorem W_skip : W call K ks e H .skip = Nx call K ks e H := by
  simp only [W_eq, Rg_eq, Nx_eq, Ex_eq, Rt_eq, Cd_eq, Ro_eq, Rf_eq, Dg_eq, Do_eq, Df_eq]
  first | done | exact W0_skip .. | (simp only [W0_skip])
theorem W_seq (a b : ACode) : W call K ks e H (.seq a b) = W call K (.code b :: ks) e H a := by
  simp only [W_eq, Rg_eq, Nx_eq, Ex_eq, Rt_eq, Cd_eq, Ro_eq, Rf_eq, Dg_eq, Do_eq, Df_eq]
  first | done | exact W0_seq .. | (simp only [W0_seq])
theorem W_block (id : Nat) (b : ACode) : W call K ks e H (.block id b) = W call K (.block id :: ks) e H b := by
  simp only [W_eq, Rg_eq, Nx_eq, Ex_eq, Rt_eq, Cd_eq, Ro_eq, Rf_eq, Dg_eq, Do_eq, Df_eq]
  first | done | exact W0_block .. | (simp only [W0_block])
theorem W_exit (id : Nat) : W call K ks e H (.exit id) = Ex call K ks e H id := by
  simp only [W_eq, Rg_eq, Nx_eq, Ex_eq, Rt_eq, Cd_eq, Ro_eq, Rf_eq, Dg_eq, Do_eq, Df_eq]
  first | done | exact W0_exit .. | (simp only [W0_exit])
theorem W_trim (l : List Nat) : W call K ks e H (.trim l) = Nx call K ks (kp e l) H := by
  simp only [W_eq, Rg_eq, Nx_eq, Ex_eq, Rt_eq, Cd_eq, Ro_eq, Rf_eq, Dg_eq, Do_eq, Df_eq]
  first | done | exact W0_trim .. | (simp only [W0_trim])
theorem W_ret : W call K ks e H .ret = Rt call K ks e H := by
  simp only [W_eq, Rg_eq, Nx_eq, Ex_eq, Rt_eq, Cd_eq, Ro_eq, Rf_eq, Dg_eq, Do_eq, Df_eq]
  first | done | exact W0_ret .. | (simp only [W0_ret])
theorem W_reg (is : List AIns) : W call K ks e H (.reg is) = Rg call K ks e H is := by
  simp only [W_eq, Rg_eq, Nx_eq, Ex_eq, Rt_eq, Cd_eq, Ro_eq, Rf_eq, Dg_eq, Do_eq, Df_eq]
  first | done | exact W0_reg .. | (simp only [W0_reg])
theorem W_cond (c : Arg) (a b : ACode) : W call K ks e H (.cond c a b) = Cd call K ks e H c a b (c.val e) := by
  simp only [W_eq, Rg_eq, Nx_eq, Ex_eq, Rt_eq, Cd_eq, Ro_eq, Rf_eq, Dg_eq, Do_eq, Df_eq]
  first | done | exact W0_cond .. | (simp only [W0_cond])
theorem Cd_bool (c : Arg) (a b : ACode) (t : Bool) : Cd call K ks e H c a b (.bool t) = ((t = true → W call K ks (pushA e c true) H a) ∧ (t = false → W call K ks (pushA e c false) H b)) := by
  simp only [W_eq, Rg_eq, Nx_eq, Ex_eq, Rt_eq, Cd_eq, Ro_eq, Rf_eq, Dg_eq, Do_eq, Df_eq]
  first | done | exact Cd0_bool .. | (simp only [Cd0_bool])
theorem Cd_dec (c : Arg) (a b : ACode) (p : Prop) [Decidable p] : Cd call K ks e H c a b (.bool (decide p)) = ((p → W call K ks (pushA e c true) H a) ∧ (¬ p → W call K ks (pushA e c false) H b)) := by
  simp only [W_eq, Rg_eq, Nx_eq, Ex_eq, Rt_eq, Cd_eq, Ro_eq, Rf_eq, Dg_eq, Do_eq, Df_eq]
  first | done | exact Cd0_dec .. | (simp only [Cd0_dec])
theorem Cd_beq {α : Type} [BEq α] [LawfulBEq α] (c : Arg) (a b : ACode) (x y : α) : Cd call K ks e H c a b (.bool (x == y)) = ((x = y → W call K ks (pushA e c true) H a) ∧ (¬ x = y → W call K ks (pushA e c false) H b)) := by
  simp only [W_eq, Rg_eq, Nx_eq, Ex_eq, Rt_eq, Cd_eq, Ro_eq, Rf_eq, Dg_eq, Do_eq, Df_eq]
  first | done | exact Cd0_beq .. | (simp only [Cd0_beq])
theorem Cd_bne {α : Type} [BEq α] [LawfulBEq α] (c : Arg) (a b : ACode) (x y : α) : Cd call K ks e H c a b (.bool (x != y)) = ((x = y → W call K ks (pushA e c false) H b) ∧ (¬ x = y → W call K ks (pushA e c true) H a)) := by
  simp only [W_eq, Rg_eq, Nx_eq, Ex_eq, Rt_eq, Cd_eq, Ro_eq, Rf_eq, Dg_eq, Do_eq, Df_eq]
  first | done | exact Cd0_bne .. | (simp only [Cd0_bne])
theorem Cd_nbeq {α : Type} [BEq α] [LawfulBEq α] (c : Arg) (a b : ACode) (x y : α) : Cd call K ks e H c a b (.bool (!(x == y))) = ((x = y → W call K ks (pushA e c false) H b) ∧ (¬ x = y → W call K ks (pushA e c true) H a)) := by
  simp only [W_eq, Rg_eq, Nx_eq, Ex_eq, Rt_eq, Cd_eq, Ro_eq, Rf_eq, Dg_eq, Do_eq, Df_eq]
  first | done | exact Cd0_nbeq .. | (simp only [Cd0_nbeq])
theorem Cd_true (c : Arg) (a b : ACode) : Cd call K ks e H c a b (.bool true) = W call K ks (pushA e c true) H a := by
  simp only [W_eq, Rg_eq, Nx_eq, Ex_eq, Rt_eq, Cd_eq, Ro_eq, Rf_eq, Dg_eq, Do_eq, Df_eq]
  first | done | exact Cd0_true .. | (simp only [Cd0_true])
theorem Cd_false (c : Arg) (a b : ACode) : Cd call K ks e H c a b (.bool false) = W call K ks (pushA e c false) H b := by
  simp only [W_eq, Rg_eq, Nx_eq, Ex_eq, Rt_eq, Cd_eq, Ro_eq, Rf_eq, Dg_eq, Do_eq, Df_eq]
  first | done | exact Cd0_false .. | (simp only [Cd0_false])
theorem Nx_nil : Nx call K [] e H = K .nrm ⟨e, H⟩ := by
  simp only [W_eq, Rg_eq, Nx_eq, Ex_eq, Rt_eq, Cd_eq, Ro_eq, Rf_eq, Dg_eq, Do_eq, Df_eq]
  first | done | exact Nx0_nil .. | (simp only [Nx0_nil])
theorem Nx_code (b : ACode) : Nx call K (.code b :: ks) e H = W call K ks e H b := by
  simp only [W_eq, Rg_eq, Nx_eq, Ex_eq, Rt_eq, Cd_eq, Ro_eq, Rf_eq, Dg_eq, Do_eq, Df_eq]
  first | done | exact Nx0_code .. | (simp only [Nx0_code])
theorem Nx_block (id : Nat) : Nx call K (.block id :: ks) e H = Nx call K ks e H := by
  simp only [W_eq, Rg_eq, Nx_eq, Ex_eq, Rt_eq, Cd_eq, Ro_eq, Rf_eq, Dg_eq, Do_eq, Df_eq]
  first | done | exact Nx0_block .. | (simp only [Nx0_block])
theorem Ex_nil (id : Nat) : Ex call K [] e H id = K (.exit id) ⟨e, H⟩ := by
  simp only [W_eq, Rg_eq, Nx_eq, Ex_eq, Rt_eq, Cd_eq, Ro_eq, Rf_eq, Dg_eq, Do_eq, Df_eq]
  first | done | exact Ex0_nil .. | (simp only [Ex0_nil])
theorem Ex_code (id : Nat) (b : ACode) : Ex call K (.code b :: ks) e H id = Ex call K ks e H id := by
  simp only [W_eq, Rg_eq, Nx_eq, Ex_eq, Rt_eq, Cd_eq, Ro_eq, Rf_eq, Dg_eq, Do_eq, Df_eq]
  first | done | exact Ex0_code .. | (simp only [Ex0_code])
theorem Ex_block (id j : Nat) : Ex call K (.block j :: ks) e H id = if id = j then Nx call K ks e H else Ex call K ks e H id := by
  simp only [W_eq, Rg_eq, Nx_eq, Ex_eq, Rt_eq, Cd_eq, Ro_eq, Rf_eq, Dg_eq, Do_eq, Df_eq]
  first | done | exact Ex0_block .. | (simp only [Ex0_block])
theorem Rt_nil : Rt call K [] e H = K .ret ⟨e, H⟩ := by
  simp only [W_eq, Rg_eq, Nx_eq, Ex_eq, Rt_eq, Cd_eq, Ro_eq, Rf_eq, Dg_eq, Do_eq, Df_eq]
  first | done | exact Rt0_nil .. | (simp only [Rt0_nil])
theorem Rt_code (b : ACode) : Rt call K (.code b :: ks) e H = Rt call K ks e H := by
  simp only [W_eq, Rg_eq, Nx_eq, Ex_eq, Rt_eq, Cd_eq, Ro_eq, Rf_eq, Dg_eq, Do_eq, Df_eq]
  first | done | exact Rt0_code .. | (simp only [Rt0_code])
theorem Rt_block (id : Nat) : Rt call K (.block id :: ks) e H = Rt call K ks e H := by
  simp only [W_eq, Rg_eq, Nx_eq, Ex_eq, Rt_eq, Cd_eq, Ro_eq, Rf_eq, Dg_eq, Do_eq, Df_eq]
  first | done | exact Rt0_block .. | (simp only [Rt0_block])
theorem Rg_nil : Rg call K ks e H [] = Nx call K ks e H := by
  simp only [W_eq, Rg_eq, Nx_eq, Ex_eq, Rt_eq, Cd_eq, Ro_eq, Rf_eq, Dg_eq, Do_eq, Df_eq]
  first | done | exact Rg0_nil .. | (simp only [Rg0_nil])
theorem Rg_one (is : List AIns) (dst : Option Nat) (op : AOp) : Rg call K ks e H (⟨dst, op, .none⟩ :: is) = Ro call K ks e e is dst (exe call e op H) := by
  simp only [W_eq, Rg_eq, Nx_eq, Ex_eq, Rt_eq, Cd_eq, Ro_eq, Rf_eq, Dg_eq, Do_eq, Df_eq]
  first | done | exact Rg0_one .. | (simp only [Rg0_one])
theorem Rg_if (is : List AIns) (dst : Option Nat) (op : AOp) (g : Nat) (b : Bool) : Rg call K ks e H (⟨dst, op, some (g, b)⟩ :: is) = Rf call K ks e H is dst op g b (e.at g) := by
  simp only [W_eq, Rg_eq, Nx_eq, Ex_eq, Rt_eq, Cd_eq, Ro_eq, Rf_eq, Dg_eq, Do_eq, Df_eq]
  first | done | exact Rg0_if .. | (simp only [Rg0_if])
theorem Ro_ok (v : AV) : Ro call K ks e e' is dst (some (.ok v, H)) = Rg call K ks (putd e' dst v) H is := by
  simp only [W_eq, Rg_eq, Nx_eq, Ex_eq, Rt_eq, Cd_eq, Ro_eq, Rf_eq, Dg_eq, Do_eq, Df_eq]
  first | done | exact Ro0_ok .. | (simp only [Ro0_ok])
theorem Rf_bool (b c : Bool) : Rf call K ks e H is dst op g b (.bool c) = ((c = b → Ro call K ks e ((g, .bool b) :: e) is dst (exe call e op H)) ∧ (c = (!b) → Rg call K ks (putd ((g, .bool (!b)) :: e) dst (.tup [])) H is)) := by
  simp only [W_eq, Rg_eq, Nx_eq, Ex_eq, Rt_eq, Cd_eq, Ro_eq, Rf_eq, Dg_eq, Do_eq, Df_eq]
  first | done | exact Rf0_bool .. | (simp only [Rf0_bool])
theorem Rf_dec (b : Bool) (p : Prop) [Decidable p] : Rf call K ks e H is dst op g b (.bool (decide p)) = ((p → Rf call K ks e H is dst op g b (.bool true)) ∧ (¬ p → Rf call K ks e H is dst op g b (.bool false))) := by
  simp only [W_eq, Rg_eq, Nx_eq, Ex_eq, Rt_eq, Cd_eq, Ro_eq, Rf_eq, Dg_eq, Do_eq, Df_eq]
  first | done | exact Rf0_dec .. | (simp only [Rf0_dec])
theorem Rf_beq {α : Type} [BEq α] [LawfulBEq α] (b : Bool) (x y : α) : Rf call K ks e H is dst op g b (.bool (x == y)) = ((x = y → Rf call K ks e H is dst op g b (.bool true)) ∧ (¬ x = y → Rf call K ks e H is dst op g b (.bool false))) := by
  simp only [W_eq, Rg_eq, Nx_eq, Ex_eq, Rt_eq, Cd_eq, Ro_eq, Rf_eq, Dg_eq, Do_eq, Df_eq]
  first | done | exact Rf0_beq .. | (simp only [Rf0_beq])
theorem Rf_bne {α : Type} [BEq α] [LawfulBEq α] (b : Bool) (x y : α) : Rf call K ks e H is dst op g b (.bool (x != y)) = ((x = y → Rf call K ks e H is dst op g b (.bool false)) ∧ (¬ x = y → Rf call K ks e H is dst op g b (.bool true))) := by
  simp only [W_eq, Rg_eq, Nx_eq, Ex_eq, Rt_eq, Cd_eq, Ro_eq, Rf_eq, Dg_eq, Do_eq, Df_eq]
  first | done | exact Rf0_bne .. | (simp only [Rf0_bne])
theorem Rf_nbeq {α : Type} [BEq α] [LawfulBEq α] (b : Bool) (x y : α) : Rf call K ks e H is dst op g b (.bool (!(x == y))) = ((x = y → Rf call K ks e H is dst op g b (.bool false)) ∧ (¬ x = y → Rf call K ks e H is dst op g b (.bool true))) := by
  simp only [W_eq, Rg_eq, Nx_eq, Ex_eq, Rt_eq, Cd_eq, Ro_eq, Rf_eq, Dg_eq, Do_eq, Df_eq]
  first | done | exact Rf0_nbeq .. | (simp only [Rf0_nbeq])
theorem Rf_tt : Rf call K ks e H is dst op g true (.bool true) = Ro call K ks e ((g, .bool true) :: e) is dst (exe call e op H) := by
  simp only [W_eq, Rg_eq, Nx_eq, Ex_eq, Rt_eq, Cd_eq, Ro_eq, Rf_eq, Dg_eq, Do_eq, Df_eq]
  first | done | exact Rf0_tt .. | (simp only [Rf0_tt])
theorem Rf_ff : Rf call K ks e H is dst op g false (.bool false) = Ro call K ks e ((g, .bool false) :: e) is dst (exe call e op H) := by
  simp only [W_eq, Rg_eq, Nx_eq, Ex_eq, Rt_eq, Cd_eq, Ro_eq, Rf_eq, Dg_eq, Do_eq, Df_eq]
  first | done | exact Rf0_ff .. | (simp only [Rf0_ff])
theorem Rf_tf : Rf call K ks e H is dst op g true (.bool false) = Rg call K ks (putd ((g, .bool false) :: e) dst (.tup [])) H is := by
  simp only [W_eq, Rg_eq, Nx_eq, Ex_eq, Rt_eq, Cd_eq, Ro_eq, Rf_eq, Dg_eq, Do_eq, Df_eq]
  first | done | exact Rf0_tf .. | (simp only [Rf0_tf])
theorem Rf_ft : Rf call K ks e H is dst op g false (.bool true) = Rg call K ks (putd ((g, .bool true) :: e) dst (.tup [])) H is := by
  simp only [W_eq, Rg_eq, Nx_eq, Ex_eq, Rt_eq, Cd_eq, Ro_eq, Rf_eq, Dg_eq, Do_eq, Df_eq]
  first | done | exact Rf0_ft .. | (simp only [Rf0_ft])
theorem Rf_tup (b : Bool) : Rf call K ks e H is dst op g b (.tup []) = Rg call K ks (putd ((g, .tup []) :: e) dst (.tup [])) H is := by
  simp only [W_eq, Rg_eq, Nx_eq, Ex_eq, Rt_eq, Cd_eq, Ro_eq, Rf_eq, Dg_eq, Do_eq, Df_eq]
  first | done | exact Rf0_tup .. | (simp only [Rf0_tup])
theorem W_loop {live : Option (List Nat)} {b : ACode} (h : W call K (.code (.loop live b) :: ks) (keep e live) H b) : W call K ks e H (.loop live b) := ⟨W0_loop _ _ _ _ _ h.h⟩
theorem wp_W {c : ACode} (h : W call K [] e H c) : wp call c K ⟨e, H⟩ := wp_W0 _ _ _ _ h.h
end
section
variable (call : Call) (K : AX → St → Prop) (ks : List Fr) (l : List Nat) (os : List DIns) (j : Nat) (e e' : Env) (base : AH) (seg : List (Nat × List (Nat × Blk))) (next : Nat) (dst : Option Nat) (kind : Nat) (op : AOp) (deps late : List Nat) (g : Nat)
theorem Dg_nil : Dg call K ks l [] j e base seg next = Nx call K ks (kp e l) { base with blks := seg.flatMap (·.2) ++ base.blks, next := next } := by
  simp only [W_eq, Rg_eq, Nx_eq, Ex_eq, Rt_eq, Cd_eq, Ro_eq, Rf_eq, Dg_eq, Do_eq, Df_eq]
  first | done | exact Dg0_nil .. | (simp only [Dg0_nil])
theorem Dg_one : Dg call K ks l (⟨⟨dst, op, .none⟩, deps, late, kind⟩ :: os) j e base seg next = Do call K ks l os j e base seg next dst kind (exe call e op (visH kind deps base seg next)) := by
  simp only [W_eq, Rg_eq, Nx_eq, Ex_eq, Rt_eq, Cd_eq, Ro_eq, Rf_eq, Dg_eq, Do_eq, Df_eq]
  first | done | exact Dg0_one .. | (simp only [Dg0_one])
theorem Dg_if (b : Bool) : Dg call K ks l (⟨⟨dst, op, some (g, b)⟩, deps, late, kind⟩ :: os) j e base seg next = Df call K ks l os j e base seg next dst kind op deps g b (e.at g) := by
  simp only [W_eq, Rg_eq, Nx_eq, Ex_eq, Rt_eq, Cd_eq, Ro_eq, Rf_eq, Dg_eq, Do_eq, Df_eq]
  first | done | exact Dg0_if .. | (simp only [Dg0_if])
theorem Do_0 (v : AV) (H1 : AH) : Do call K ks l os j e' base seg next dst 0 (some (.ok v, H1)) = (H1.next = next ∧ Dg call K ks l os (j + 1) (putd e' dst v) base seg next) := by
  simp only [W_eq, Rg_eq, Nx_eq, Ex_eq, Rt_eq, Cd_eq, Ro_eq, Rf_eq, Dg_eq, Do_eq, Df_eq]
  first | done | exact Do0_0 .. | (simp only [Do0_0])
theorem Do_1 (v : AV) (H1 : AH) : Do call K ks l os j e' base seg next dst 1 (some (.ok v, H1)) = Dg call K ks l os (j + 1) (putd e' dst v) base ((j, newBlks H1.blks next) :: seg) H1.next := by
  simp only [W_eq, Rg_eq, Nx_eq, Ex_eq, Rt_eq, Cd_eq, Ro_eq, Rf_eq, Dg_eq, Do_eq, Df_eq]
  first | done | exact Do0_1 .. | (simp only [Do0_1])
theorem Do_2 (v : AV) (H1 : AH) : Do call K ks l os j e' base seg next dst 2 (some (.ok v, H1)) = Dg call K ks l os (j + 1) (putd e' dst v) H1 [] H1.next := by
  simp only [W_eq, Rg_eq, Nx_eq, Ex_eq, Rt_eq, Cd_eq, Ro_eq, Rf_eq, Dg_eq, Do_eq, Df_eq]
  first | done | exact Do0_2 .. | (simp only [Do0_2])
theorem Df_tt : Df call K ks l os j e base seg next dst kind op deps g true (.bool true) = Do call K ks l os j ((g, .bool true) :: e) base seg next dst kind (exe call e op (visH kind deps base seg next)) := by
  simp only [W_eq, Rg_eq, Nx_eq, Ex_eq, Rt_eq, Cd_eq, Ro_eq, Rf_eq, Dg_eq, Do_eq, Df_eq]
  first | done | exact Df0_tt .. | (simp only [Df0_tt])
theorem Df_ff : Df call K ks l os j e base seg next dst kind op deps g false (.bool false) = Do call K ks l os j ((g, .bool false) :: e) base seg next dst kind (exe call e op (visH kind deps base seg next)) := by
  simp only [W_eq, Rg_eq, Nx_eq, Ex_eq, Rt_eq, Cd_eq, Ro_eq, Rf_eq, Dg_eq, Do_eq, Df_eq]
  first | done | exact Df0_ff .. | (simp only [Df0_ff])
theorem Df_tf : Df call K ks l os j e base seg next dst kind op deps g true (.bool false) = Dg call K ks l os (j + 1) (putd ((g, .bool false) :: e) dst (.tup [])) base seg next := by
  simp only [W_eq, Rg_eq, Nx_eq, Ex_eq, Rt_eq, Cd_eq, Ro_eq, Rf_eq, Dg_eq, Do_eq, Df_eq]
  first | done | exact Df0_tf .. | (simp only [Df0_tf])
theorem Df_ft : Df call K ks l os j e base seg next dst kind op deps g false (.bool true) = Dg call K ks l os (j + 1) (putd ((g, .bool true) :: e) dst (.tup [])) base seg next := by
  simp only [W_eq, Rg_eq, Nx_eq, Ex_eq, Rt_eq, Cd_eq, Ro_eq, Rf_eq, Dg_eq, Do_eq, Df_eq]
  first | done | exact Df0_ft .. | (simp only [Df0_ft])
theorem Df_tup (b : Bool) : Df call K ks l os j e base seg next dst kind op deps g b (.tup []) = Dg call K ks l os (j + 1) (putd ((g, .tup []) :: e) dst (.tup [])) base seg next := by
  simp only [W_eq, Rg_eq, Nx_eq, Ex_eq, Rt_eq, Cd_eq, Ro_eq, Rf_eq, Dg_eq, Do_eq, Df_eq]
  first | done | exact Df0_tup .. | (simp only [Df0_tup])
theorem Df_dec (b : Bool) (p : Prop) [Decidable p] : Df call K ks l os j e base seg next dst kind op deps g b (.bool (decide p)) = ((p → Df call K ks l os j e base seg next dst kind op deps g b (.bool true)) ∧ (¬ p → Df call K ks l os j e base seg next dst kind op deps g b (.bool false))) := by
  simp only [W_eq, Rg_eq, Nx_eq, Ex_eq, Rt_eq, Cd_eq, Ro_eq, Rf_eq, Dg_eq, Do_eq, Df_eq]
  first | done | exact Df0_dec .. | (simp only [Df0_dec])
theorem Df_beq {α : Type} [BEq α] [LawfulBEq α] (b : Bool) (x y : α) : Df call K ks l os j e base seg next dst kind op deps g b (.bool (x == y)) = ((x = y → Df call K ks l os j e base seg next dst kind op deps g b (.bool true)) ∧ (¬ x = y → Df call K ks l os j e base seg next dst kind op deps g b (.bool false))) := by
  simp only [W_eq, Rg_eq, Nx_eq, Ex_eq, Rt_eq, Cd_eq, Ro_eq, Rf_eq, Dg_eq, Do_eq, Df_eq]
  first | done | exact Df0_beq .. | (simp only [Df0_beq])
theorem Df_bne {α : Type} [BEq α] [LawfulBEq α] (b : Bool) (x y : α) : Df call K ks l os j e base seg next dst kind op deps g b (.bool (x != y)) = ((x = y → Df call K ks l os j e base seg next dst kind op deps g b (.bool false)) ∧ (¬ x = y → Df call K ks l os j e base seg next dst kind op deps g b (.bool true))) := by
  simp only [W_eq, Rg_eq, Nx_eq, Ex_eq, Rt_eq, Cd_eq, Ro_eq, Rf_eq, Dg_eq, Do_eq, Df_eq]
  first | done | exact Df0_bne .. | (simp only [Df0_bne])
theorem Df_nbeq {α : Type} [BEq α] [LawfulBEq α] (b : Bool) (x y : α) : Df call K ks l os j e base seg next dst kind op deps g b (.bool (!(x == y))) = ((x = y → Df call K ks l os j e base seg next dst kind op deps g b (.bool false)) ∧ (¬ x = y → Df call K ks l os j e base seg next dst kind op deps g b (.bool true))) := by
  simp only [W_eq, Rg_eq, Nx_eq, Ex_eq, Rt_eq, Cd_eq, Ro_eq, Rf_eq, Dg_eq, Do_eq, Df_eq]
  first | done | exact Df0_nbeq .. | (simp only [Df0_nbeq])
end
theorem W_drawn {call : Call} {K : AX → St → Prop} {ks : List Fr} {l : List Nat} {is : List DIns} {e : Env} {H : AH} (hok : okD is = true) (h : Dg call K ks l is 0 e H [] H.next) : W call K ks e H (.seq (.regd is) (.trim l)) := ⟨W0_drawn hok h.h⟩
theorem W_drawn' {call : Call} {K : AX → St → Prop} {ks : List Fr} {l : List Nat} {is : List DIns} {e : Env} {H : AH} (hok : okD is = true) (h : Dg call K ks l is 0 e H [] H.next) : W call K (.code (.trim l) :: ks) e H (.regd is) := ⟨W0_drawn' hok h.h⟩

end Go.Am
