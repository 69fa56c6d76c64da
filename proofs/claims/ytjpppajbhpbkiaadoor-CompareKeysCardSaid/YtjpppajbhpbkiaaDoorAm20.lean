/-
A region that draws its order, continued: operations that write, and all operations of such a region. Conditions: those that each theorem names.
-/
import Derived.Test.YtjpppajbhpbkiaaDoorAm19
set_option linter.unusedSimpArgs false
set_option linter.unusedVariables false
namespace Go.Am
open Go.RowKit

section
variable {P : Program} {B : Base} {call : Call} {nt : Nat} {ops : Array Oper} {is : List DIns} {e0 : Env} {H0 : AH} {T : Nat → DSt}

/-- The heap that an operation sees that writes is the heap. -/
theorem Inv.seen {a0 φ0 w0 S a w φ m H} (h : Inv call B is e0 H0 T a0 φ0 w0 S a w φ m H) {i : Nat} (hbase : (T i).base = (T m).base)
    (hseg : ∀ r, r ∈ (T i).seg ↔ ∃ k, m ≤ k ∧ k < i ∧ One is e0 T k ∧ r = res T k) (hS : ∀ k, m ≤ k → One is e0 T k → (k < i ↔ S k)) (j : Nat) : lk ((T i).seg.flatMap (·.new) ++ (T i).base.blks) j = H.get j := by
  have fwd : ∀ b, lk ((T i).seg.flatMap (·.new)) j = some b → H.get j = some b := fun b hb => by
    obtain ⟨r, hr, hrb⟩ := lk_flatMap_some hb
    obtain ⟨k, k1, k2, k3, rfl⟩ := (hseg r).1 hr
    exact (h.get j b).2 (.inr ⟨k, k1, (hS k k1 k3).1 k2, k3, hrb⟩)
  cases hx : H.get j with
  | none =>
    rw [lk_append, lk_none_of fun b hb => by rw [fwd b hb] at hx; cases hx]
    rw [Option.none_or]
    refine lk_none_of fun b hb => ?_
    rw [hbase] at hb
    have := (h.get j b).2 (.inl hb)
    rw [hx] at this; cases this
  | some b =>
    rw [lk_append]
    cases hy : lk ((T i).seg.flatMap (·.new)) j with
    | some c => have := fwd c hy; rw [hx] at this; simp at this; subst this; rfl
    | none =>
      rw [Option.none_or]
      rcases (h.get j b).1 hx with g | ⟨k, k1, k2, k3, k4⟩
      · rw [hbase]; exact g
      · exfalso
        have := lk_flatMap_of (L := (T i).seg) (f := (·.new)) (i := j) (b := b) ((hseg _).2 ⟨k, k1, (hS k k1 k3).2 k2, k3, rfl⟩) k4 fun q hq c hc => by
          obtain ⟨k', k1', k2', k3', rfl⟩ := (hseg q).1 hq
          have := (h.get j c).2 (.inr ⟨k', k1', (hS k' k1' k3').1 k2', k3', hc⟩)
          rw [hx] at this; simpa using this.symm
        rw [hy] at this; cases this

theorem Inv.two {a0 φ0 w0 S a w φ m H} (h : Inv call B is e0 H0 T a0 φ0 w0 S a w φ m H) (D : DOk P nt ops is) (tr : Tr call is e0 H0 T) (hm : CallMono call) {i : Nat} {o : DIns} (ho : is[i]? = some o) (hdeps : ∀ k ∈ o.deps, S k) (hi : ¬ S i) (hk0 : o.kind ≠ 0) (hk1 : o.kind ≠ 1)
    (hbase : (T i).base = (T m).base) (hmi : m ≤ i) {v : AV} {H1 : AH}
    (hT : T (i + 1) = { done := ⟨i, o.ins.dst, v, []⟩ :: (T i).done, base := H1, seg := [], next := H1.next }) (hfl0 : H0.floor ≤ H0.next)
    (hget : ∀ j, lk ((T i).seg.flatMap (·.new) ++ (T i).base.blks) j = H.get j)
    {v' : Value} {w' : World} {ψ : Emb} (hv : VR ψ v v') (hd : o.ins.dst.all (· < a.tmps.size) = true)
    (hst : Step B φ { blks := (T i).seg.flatMap (·.new) ++ (T i).base.blks, next := (T i).next, floor := (T i).base.floor } w ψ H1 w') :
    Inv call B is e0 H0 T a0 φ0 w0 (fun k => S k ∨ k = i) (a.put o.ins.dst v') w' ψ (i + 1) { H1 with next := (T is.length).next } := by
  have hil : i < is.length := Tr.lt_of ho
  have hres : res T i = ⟨i, o.ins.dst, v, []⟩ := by unfold res; rw [hT]; rfl
  have hnx : H1.next = (T (i + 1)).next := by rw [hT]
  have hN := tr.next_mono hm (j := i + 1) (k := is.length) (by omega) (Nat.le_refl _)
  have h0i := tr.next_mono hm (j := 0) (k := i) (by omega) (by omega)
  have hz : (T 0).next = H0.next := by rw [tr.zero]
  have hii := (tr.step i o ho).next_le hm
  have hle : φ.le ψ := hst.le (by
    show Free φ (T i).next H1.next
    rw [hnx]; exact h.free i hil hi)
  have hfloor : H1.floor = H0.floor := by
    rw [hst.flo]
    show (T i).base.floor = _
    rw [hbase]; exact h.bfl
  have hno : ∀ k (d : DIns), i + 1 ≤ k → is[k]? = some d → d.kind ≠ 0 → ¬ (S k ∨ k = i) := fun k d h1 h2 h3 h4 => by
    rcases h4 with h4 | h4
    · rcases D.tot ho hk0 hk1 h2 (by omega) h3 with g | g
      · have := D.lt ho g; omega
      · exact hi (h.dn k d h4 h2 i ((D.late ho h2).1 g))
    · omega
  have hfoot : ∀ p, Foot φ { blks := (T i).seg.flatMap (·.new) ++ (T i).base.blks, next := (T i).next, floor := (T i).base.floor } p → Foot φ H p := fun p ⟨j, b, s, mm, f1, f2, f3, f4⟩ => by
    refine ⟨j, b, s, mm, ?_, by rw [← hget j]; exact f2, f3, f4⟩
    rw [h.hfloor, ← h.bfl, ← hbase]
    exact f1
  refine h.make D tr hm ho hdeps hi hle (fun j hj => hst.emb j (by rcases hj with hj | hj; exact .inl hj; exact .inr (by rw [hnx]; exact hj))) (by rw [hres]; exact hv) hd (by omega) ?_ ?_ (by rw [hT]) ?_ ?_ (by rw [hT]; exact hfloor) rfl hfloor ?_ ?_
  · intro k d h1 h2 h3
    by_cases e : k = i
    · exact .inr e
    · refine .inl (hdeps k ?_)
      rcases D.tot ho hk0 hk1 h1 e h2 with g | g
      · exact g
      · have := D.lt h1 ((D.late ho h1).1 g); omega
  · rintro k h1 ⟨d, g1, g2, g3, g4⟩
    exact hno k d h1 g1 g3
  · intro j b hb
    rw [hT] at hb ⊢
    exact hst.rel.live j b hb
  · rintro k h1 ⟨d, g1, g2, g3⟩ h3
    exact absurd h1 (hno k d h3 g1 (by omega))
  · intro j b
    rw [hT]
    constructor
    · intro g; exact .inl g
    · rintro (g | ⟨k, k1, k2, ⟨d, g1, g2, g3⟩, k4⟩)
      · exact g
      · exact absurd k2 (hno k d k1 g1 (by omega))
  · refine ⟨hst.rel.sub (fun j b hb => hb) (fun j b hb => ?_) ?_ (Nat.le_refl _), fun j hj => ?_, ?_, hfloor, fun j hj => ?_, fun j b hj hb => ?_, hst.os.trans h.step.os, hst.tape.trans h.step.tape, hst.output.trans h.step.output, Nat.le_trans h.step.size hst.size, fun p hp hn => ?_, fun p hp => ?_⟩
    · have := hst.rel.live j b hb
      show j < (T is.length).next
      omega
    · show H1.floor ≤ (T is.length).next
      omega
    · have hj' : j < H0.next ∨ (T is.length).next ≤ j := hj
      rw [hst.emb j (by
        show j < (T i).next ∨ H1.next ≤ j
        omega)]
      exact h.step.emb j (by rw [h.hnext]; exact hj)
    · show H0.next ≤ (T is.length).next
      omega
    · rw [← h.step.old j hj, ← hget j]
      refine hst.old j ?_
      show j < (T i).base.floor
      rw [hbase, h.bfl]; exact hj
    · obtain ⟨c, hc, e⟩ := hst.sub j b (by show j < (T i).next; omega) hb
      obtain ⟨c', hc', e'⟩ := h.step.sub j c hj (by rw [← hget j]; exact hc)
      exact ⟨c', hc', e'.trans e⟩
    · have := h.step.size
      rw [hst.frame p (by omega) fun hf => ?_]
      · exact h.step.frame p hp hn
      · rcases h.step.foot p (hfoot p hf) with g | g
        · exact hn g
        · omega
    · obtain ⟨j, b, s, mm, f1, f2, f3, f4⟩ := hp
      rcases hst.foot p ⟨j, b, s, mm, f1, f2, f3, f4⟩ with g | g
      · exact h.step.foot p (hfoot p g)
      · have := h.step.size
        exact .inr (by omega)

/-- Whatever operation comes next. -/
theorem Inv.next (D : DOk P nt ops is) (tr : Tr call is e0 H0 T) (hm : CallMono call) (hcall : CallOk P B call) {a0 φ0 w0 S a w φ m H} (hg : GlobR P φ0) (he0 : EnvR φ0 e0 a0.tmps) (hfl0 : H0.floor ≤ H0.next) (hn : nt ≤ a0.tmps.size)
    (hf : Free φ0 H0.next (T is.length).next) (h : Inv call B is e0 H0 T a0 φ0 w0 S a w φ m H) {i : Nat} {op : Oper} (hop : ops[i]? = some op) (hi : ¬ S i) (hedge : ∀ e ∈ op.after.toList, Region.binds .any e = true → S e.on)
    {Q : Exit → Act → World → Prop} {K : Act → World → Prop} (hK : ∀ ψ a' w' m' H', Inv call B is e0 H0 T a0 φ0 w0 (fun k => S k ∨ k = i) a' w' ψ m' H' → K a' w') : wpOp P ops Q i K a w := by
  have hil : i < is.length := by rw [D.len]; exact (Array.getElem?_eq_some_iff.1 hop).1
  obtain ⟨d, hd⟩ := Tr.some_of hil
  have hdp : ∀ x ∈ d.deps, S x := D.clos S hop hd (fun k dk hk hkd x hx => h.dn k dk hk hkd x hx) hedge
  have hle : φ0.le φ := h.step.le (by rw [h.hnext]; exact hf)
  have henv := h.envR D tr hd hi hdp he0 hle
  have hg' := hg.mono hle
  have hins := D.ins hop hd
  have hHfl : H.floor ≤ (T i).next := by
    have h1 := tr.next_mono hm (j := 0) (k := i) (by omega) (by omega)
    rw [tr.zero] at h1
    have h1' : H0.next ≤ (T i).next := h1
    rw [h.hfloor]
    omega
  have hst := tr.step i d hd
  unfold wpOp
  rw [hop]
  simp only
  rcases cins_cases P nt ops op with hbad | ⟨hdl, hdst, hopn, hgu⟩
  · exfalso
    cases hst with
    | skip hw _ => rw [hins, hbad] at hw; simp [want] at hw
    | pure v H1 _ _ hx _ _ => rw [hins, hbad, bad_none] at hx; cases hx
    | one v H1 _ _ hx _ => rw [hins, hbad, bad_none] at hx; cases hx
    | two v H1 _ _ _ hx _ => rw [hins, hbad, bad_none] at hx; cases hx
  rw [← hins] at hgu
  have hdd : d.ins.dst = op.dst := by rw [hins]; exact hdst
  have hdl' : d.ins.dst.all (· < a.tmps.size) = true := by
    rw [hdd, h.size]
    cases hod : op.dst with
    | none => rfl
    | some t => simp [hod] at hdl ⊢; omega
  cases hst with
  | skip hw e =>
    rw [if_neg (by rw [want_ok (ops := ops) henv hw hgu]; simp)]
    rw [← hdd]
    refine hK φ _ _ m H (h.same D tr hm hd hdp hi ?_ hdl' ?_ ?_ h.step)
    · have : res T i = ⟨i, d.ins.dst, .tup [], []⟩ := by unfold res; rw [e]; rfl
      rw [this]; exact VR.tupn
    · rintro ⟨o', ho', hw', _⟩; rw [hd] at ho'; simp at ho'; subst ho'; unfold wk at hw'; rw [hw] at hw'; cases hw'
    · rintro ⟨o', ho', hw', _⟩; rw [hd] at ho'; simp at ho'; subst ho'; unfold wk at hw'; rw [hw] at hw'; cases hw'
  | pure v H1 hw hk hx hnx e =>
    rw [if_pos (want_ok (ops := ops) henv hw hgu)]
    left
    have hrel : Rel B φ { blks := [], next := (T i).next, floor := (T i).next } w := h.step.rel.sub (fun j b hb => by cases hb) (fun j b hb => by cases hb) (Nat.le_refl _) hHfl
    rw [hins] at hx
    have h1 := ins_ok hcall (a := a) (o := op) hrel hg' henv (by rw [hnx]; exact fun j (h1 : (T i).next ≤ j) (h2 : j < (T i).next) => by omega) hx
    unfold Oper.wp
    refine does_upon h1 ?_ ?_ ?_
    · rintro v' w' ⟨ψ, hs, v2, e1, e2⟩
      simp only [Ending.returned.injEq] at e1
      subst e1
      have hψ : ψ = φ := by
        funext j
        refine hs.emb j ?_
        show j < (T i).next ∨ H1.next ≤ j
        omega
      subst hψ
      have hframe : ∀ p, p < w.heap.size → w'.heap[p]? = w.heap[p]? := fun p hp => hs.frame p hp fun ⟨j, b, s, mm, g1, g2, g3, g4⟩ => by cases g2
      rw [← hdd]
      refine hK ψ _ _ m H (h.same D tr hm hd hdp hi ?_ hdl' ?_ ?_ ?_)
      · have : res T i = ⟨i, d.ins.dst, v, []⟩ := by unfold res; rw [e]; rfl
        rw [this]; exact e2
      · rintro ⟨o', ho', _, hk'⟩; rw [hd] at ho'; simp at ho'; subst ho'; omega
      · rintro ⟨o', ho', _, hk', _⟩; rw [hd] at ho'; simp at ho'; subst ho'; omega
      · refine ⟨h.step.rel.grow (Emb.le_refl _) hs.size hframe, h.step.emb, h.step.nxt, h.step.flo, h.step.old, h.step.sub, hs.os.trans h.step.os, hs.tape.trans h.step.tape, hs.output.trans h.step.output, Nat.le_trans h.step.size hs.size, fun p hp hnf => ?_, h.step.foot⟩
        have := h.step.size
        rw [hframe p (by omega)]
        exact h.step.frame p hp hnf
    · rintro ch w' ⟨ψ, _, v2, e1, e2⟩
      cases e1
    · rintro w' ⟨ψ, _, v2, e1, e2⟩
      cases e1
  | one v H1 hw hk hx e =>
    rw [if_pos (want_ok (ops := ops) henv hw hgu)]
    left
    obtain ⟨hmi, hno⟩ := h.between D hd hdp hi (by omega)
    obtain ⟨hbase, hseg⟩ := tr.seg h.seg0 hmi (by omega) hno
    have hM := tr.next_mono hm (j := m) (k := i) hmi (by omega)
    have hfr : Free φ (T i).next H1.next := by
      have : H1.next = (T (i + 1)).next := by rw [e]
      rw [this]; exact h.free i hil hi
    have hsub : ∀ j b, lk (((T i).seg.filter fun r => d.deps.contains r.j).flatMap (·.new) ++ (T i).base.blks) j = some b → H.get j = some b ∧ j < (T i).next := fun j b hb => by
      rw [lk_append] at hb
      cases hy : lk (((T i).seg.filter fun r => d.deps.contains r.j).flatMap (·.new)) j with
      | none =>
        rw [hy, Option.none_or, hbase] at hb
        have := h.bnd j b hb
        exact ⟨(h.get j b).2 (.inl hb), by omega⟩
      | some c =>
        rw [hy] at hb; simp at hb; subst hb
        obtain ⟨r, hr, hrb⟩ := lk_flatMap_some hy
        rw [List.mem_filter] at hr
        obtain ⟨k, k1, k2, k3, rfl⟩ := (hseg r).1 hr.1
        obtain ⟨ok, hok⟩ := Tr.some_of (is := is) (j := k) (by omega)
        have hkS : S k := hdp k (by have := hr.2; rw [(tr.res_cons hok).2.1] at this; simpa using this)
        have g1 := (h.nb k hkS k3 k1 j c hrb).2
        have g2 := tr.next_mono hm (j := k + 1) (k := i) (by omega) (by omega)
        exact ⟨(h.get j c).2 (.inr ⟨k, k1, hkS, k3, hrb⟩), by omega⟩
    have hrel : Rel B φ { blks := ((T i).seg.filter fun r => d.deps.contains r.j).flatMap (·.new) ++ (T i).base.blks, next := (T i).next, floor := (T i).next } w := h.step.rel.sub (fun j b hb => (hsub j b hb).1) (fun j b hb => (hsub j b hb).2) (Nat.le_refl _) hHfl
    rw [hins] at hx
    have h1 := ins_ok hcall (a := a) (o := op) hrel hg' henv hfr hx
    unfold Oper.wp
    refine does_upon h1 ?_ ?_ ?_
    · rintro v' w' ⟨ψ, hs, v2, e1, e2⟩
      simp only [Ending.returned.injEq] at e1
      subst e1
      rw [← hdd]
      exact hK ψ _ _ m _ (h.one D tr hm hd hdp hi hk hseg hbase hmi hw e e2 hdl' hfl0 hs)
    · rintro ch w' ⟨ψ, _, v2, e1, e2⟩
      cases e1
    · rintro w' ⟨ψ, _, v2, e1, e2⟩
      cases e1
  | two v H1 hw hk0 hk1 hx e =>
    rw [if_pos (want_ok (ops := ops) henv hw hgu)]
    left
    obtain ⟨hmi, hno⟩ := h.between D hd hdp hi hk0
    obtain ⟨hbase, hseg⟩ := tr.seg h.seg0 hmi (by omega) hno
    have hM := tr.next_mono hm (j := m) (k := i) hmi (by omega)
    have hfr : Free φ (T i).next H1.next := by
      have : H1.next = (T (i + 1)).next := by rw [e]
      rw [this]; exact h.free i hil hi
    have hget := h.seen hbase hseg fun k k1 ⟨dk, g1, g2, g3⟩ => by
      constructor
      · intro hlt
        rcases D.tot hd hk0 hk1 g1 (by omega) (by omega) with g | g
        · exact hdp k g
        · have := D.lt g1 ((D.late hd g1).1 g); omega
      · intro hS
        rcases D.tot hd hk0 hk1 g1 (fun e => hi (e ▸ hS)) (by omega) with g | g
        · exact D.lt hd g
        · exact absurd (h.dn k dk hS g1 i ((D.late hd g1).1 g)) hi
    have hlive : ∀ j b, lk ((T i).seg.flatMap (·.new) ++ (T i).base.blks) j = some b → j < (T i).next := fun j b hb => by
      rw [lk_append] at hb
      cases hy : lk ((T i).seg.flatMap (·.new)) j with
      | none =>
        rw [hy, Option.none_or, hbase] at hb
        have := h.bnd j b hb
        omega
      | some c =>
        obtain ⟨r, hr, hrb⟩ := lk_flatMap_some hy
        obtain ⟨k, k1, k2, k3, rfl⟩ := (hseg r).1 hr
        obtain ⟨dk, g1, g2, g3⟩ := k3
        have hkS : S k := by
          rcases D.tot hd hk0 hk1 g1 (by omega) (by omega) with g | g
          · exact hdp k g
          · have := D.lt g1 ((D.late hd g1).1 g); omega
        have g1 := (h.nb k hkS ⟨dk, g1, g2, g3⟩ k1 j c hrb).2
        have g2 := tr.next_mono hm (j := k + 1) (k := i) (by omega) (by omega)
        omega
    have h0i := tr.next_mono hm (j := 0) (k := i) (by omega) (by omega)
    have hz : (T 0).next = H0.next := by rw [tr.zero]
    have hrel : Rel B φ { blks := (T i).seg.flatMap (·.new) ++ (T i).base.blks, next := (T i).next, floor := (T i).base.floor } w :=
      h.step.rel.sub (fun j b hb => by rw [← hget j]; exact hb) hlive (by show (T i).base.floor ≤ (T i).next; rw [hbase, h.bfl]; omega) (by show H.floor ≤ (T i).base.floor; rw [hbase, h.bfl, h.hfloor]; exact Nat.le_refl _)
    rw [hins] at hx
    have h1 := ins_ok hcall (a := a) (o := op) hrel hg' henv hfr hx
    unfold Oper.wp
    refine does_upon h1 ?_ ?_ ?_
    · rintro v' w' ⟨ψ, hs, v2, e1, e2⟩
      simp only [Ending.returned.injEq] at e1
      subst e1
      rw [← hdd]
      exact hK ψ _ _ (i + 1) _ (h.two D tr hm hd hdp hi hk0 hk1 hbase hmi e hfl0 hget e2 hdl' hs)
    · rintro ch w' ⟨ψ, _, v2, e1, e2⟩
      cases e1
    · rintro w' ⟨ψ, _, v2, e1, e2⟩
      cases e1

end
end Go.Am
