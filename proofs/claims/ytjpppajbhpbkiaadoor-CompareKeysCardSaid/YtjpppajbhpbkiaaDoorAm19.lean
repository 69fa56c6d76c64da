/-
A region that draws its order, continued: each of its operations, whenever it comes. Conditions: those that each theorem names.
-/
import Derived.Test.YtjpppajbhpbkiaaDoorAm18
set_option linter.unusedSimpArgs false
set_option linter.unusedVariables false
namespace Go.Am
open Go.RowKit

section
variable {P : Program} {B : Base} {call : Call} {nt : Nat} {ops : Array Oper} {is : List DIns} {e0 : Env} {H0 : AH} {T : Nat → DSt}

theorem lk_none_of {l : List (Nat × Blk)} {i : Nat} (h : ∀ b, lk l i ≠ some b) : lk l i = none := by
  cases hx : lk l i with
  | none => rfl
  | some b => exact absurd hx (h b)

/-- Nothing of the heap has a name that an operation yet to come will give. -/
theorem Inv.fresh {a0 φ0 w0 S a w φ m H} (h : Inv call B is e0 H0 T a0 φ0 w0 S a w φ m H) {i : Nat} (hil : i < is.length) (hi : ¬ S i) {j : Nat} (h1 : (T i).next ≤ j) (h2 : j < (T (i + 1)).next) (b : Blk) : H.get j ≠ some b := fun hb => by
  obtain ⟨p, s, mm, e, _⟩ := h.step.rel.blk j b hb
  rw [h.free i hil hi j h1 h2] at e
  cases e

/-- An operation that makes blocks. -/
theorem Inv.one {a0 φ0 w0 S a w φ m H} (h : Inv call B is e0 H0 T a0 φ0 w0 S a w φ m H) (D : DOk P nt ops is) (tr : Tr call is e0 H0 T) (hm : CallMono call) {i : Nat} {o : DIns} (ho : is[i]? = some o) (hdeps : ∀ k ∈ o.deps, S k) (hi : ¬ S i) (hk : o.kind = 1)
    (hseg : ∀ r, r ∈ (T i).seg ↔ ∃ k, m ≤ k ∧ k < i ∧ One is e0 T k ∧ r = res T k) (hbase : (T i).base = (T m).base) (hmi : m ≤ i) (hwk : wk is e0 T i o = some true) {v : AV} {H1 : AH}
    (hT : T (i + 1) = { done := ⟨i, o.ins.dst, v, newBlks H1.blks (T i).next⟩ :: (T i).done, base := (T i).base, seg := ⟨i, o.ins.dst, v, newBlks H1.blks (T i).next⟩ :: (T i).seg, next := H1.next })
    {v' : Value} {w' : World} {ψ : Emb} (hv : VR ψ v v') (hd : o.ins.dst.all (· < a.tmps.size) = true)
    (hfl0 : H0.floor ≤ H0.next) (hst : Step B φ { blks := ((T i).seg.filter fun r => o.deps.contains r.j).flatMap (·.new) ++ (T i).base.blks, next := (T i).next, floor := (T i).next } w ψ H1 w') :
    Inv call B is e0 H0 T a0 φ0 w0 (fun k => S k ∨ k = i) (a.put o.ins.dst v') w' ψ m { H with blks := (res T i).new ++ H.blks } := by
  have hil : i < is.length := Tr.lt_of ho
  have hres : res T i = ⟨i, o.ins.dst, v, newBlks H1.blks (T i).next⟩ := by unfold res; rw [hT]; rfl
  have hnx : H1.next = (T (i + 1)).next := by rw [hT]
  have hN := tr.next_mono hm (j := i + 1) (k := is.length) (by omega) (Nat.le_refl _)
  have hM := tr.next_mono hm (j := m) (k := i) hmi (by omega)
  have h0i := tr.next_mono hm (j := 0) (k := i) (by omega) (by omega)
  have hz : (T 0).next = H0.next := by rw [tr.zero]
  have hii := (tr.step i o ho).next_le hm
  have hle : φ.le ψ := hst.le (by
    show Free φ (T i).next H1.next
    rw [hnx]; exact h.free i hil hi)
  have hnew : ∀ j b, lk (res T i).new j = some b ↔ (T i).next ≤ j ∧ H1.get j = some b := fun j b => by rw [hres]; exact lk_newBlks
  have hnewlt : ∀ j b, lk (res T i).new j = some b → (T i).next ≤ j ∧ j < (T (i + 1)).next := fun j b hb => by
    obtain ⟨g1, g2⟩ := (hnew j b).1 hb
    exact ⟨g1, by rw [← hnx]; exact hst.rel.live j b g2⟩
  have hgetH : ∀ j b, ({ H with blks := (res T i).new ++ H.blks } : AH).get j = some b ↔ (lk (res T i).new j = some b ∨ H.get j = some b) := fun j b => by
    show lk ((res T i).new ++ H.blks) j = some b ↔ _
    rw [lk_append]
    cases hx : lk (res T i).new j with
    | none => simp; rfl
    | some c =>
      simp only [Option.some_or, Option.some.injEq]
      constructor
      · rintro rfl; exact .inl rfl
      · rintro (rfl | g)
        · rfl
        · obtain ⟨g1, g2⟩ := hnewlt j c hx
          exact absurd g (h.fresh hil hi g1 g2 b)
  have hframe : ∀ p, p < w.heap.size → w'.heap[p]? = w.heap[p]? := fun p hp => hst.frame p hp fun ⟨j, b, s, mm, g1, g2, g3, g4⟩ => by
    have := hst.sub j b
    have g1' : (T i).next ≤ j := g1
    -- a block of the seen heap has a name below the next one
    rcases hb : lk (((T i).seg.filter fun r => o.deps.contains r.j).flatMap (·.new)) j with _ | c
    · have : lk (T i).base.blks j = some b := by
        have g2' : lk (((T i).seg.filter fun r => o.deps.contains r.j).flatMap (·.new) ++ (T i).base.blks) j = some b := g2
        rw [lk_append, hb] at g2'; simpa using g2'
      rw [hbase] at this
      have := h.bnd j b this
      omega
    · obtain ⟨r, hr, hrb⟩ := lk_flatMap_some hb
      rw [List.mem_filter] at hr
      obtain ⟨k, k1, k2, k3, rfl⟩ := (hseg r).1 hr.1
      obtain ⟨ok, hok⟩ := Tr.some_of (is := is) (j := k) (by omega)
      have hkS : S k := hdeps k (by have := hr.2; rw [(tr.res_cons hok).2.1] at this; simpa using this)
      have := (h.nb k hkS k3 k1 j c hrb).2
      have := tr.next_mono hm (j := k + 1) (k := i) (by omega) (by omega)
      omega
  have hg := h.step.rel.grow hle hst.size hframe
  have hnewown : ∀ j b p s mm, lk (res T i).new j = some b → b.ro = false → ψ j = some (p, s, mm) → w.heap.size ≤ p := fun j b p s mm hb hro e => by
    obtain ⟨g1, g2⟩ := (hnew j b).1 hb
    rcases hst.foot p ⟨j, b, s, mm, by rw [hst.flo]; exact g1, g2, hro, e⟩ with ⟨j', b', s', mm', f1, f2, f3, f4⟩ | g
    · exfalso
      have f1' : (T i).next ≤ j' := f1
      -- as above
      have f2' : lk (((T i).seg.filter fun r => o.deps.contains r.j).flatMap (·.new) ++ (T i).base.blks) j' = some b' := f2
      rcases hb : lk (((T i).seg.filter fun r => o.deps.contains r.j).flatMap (·.new)) j' with _ | c
      · have : lk (T i).base.blks j' = some b' := by rw [lk_append, hb] at f2'; simpa using f2'
        rw [hbase] at this
        have := h.bnd j' b' this
        omega
      · obtain ⟨r, hr, hrb⟩ := lk_flatMap_some hb
        rw [List.mem_filter] at hr
        obtain ⟨k, k1, k2, k3, rfl⟩ := (hseg r).1 hr.1
        obtain ⟨ok, hok⟩ := Tr.some_of (is := is) (j := k) (by omega)
        have hkS : S k := hdeps k (by have := hr.2; rw [(tr.res_cons hok).2.1] at this; simpa using this)
        have := (h.nb k hkS k3 k1 j' c hrb).2
        have := tr.next_mono hm (j := k + 1) (k := i) (by omega) (by omega)
        omega
    · exact g
  have holdlt : ∀ j b p s mm, H.get j = some b → b.ro = false → ψ j = some (p, s, mm) → p < w.heap.size := fun j b p s mm hb hro e => by
    obtain ⟨p', s', m', e', _⟩ := h.step.rel.blk j b hb
    have := hle _ _ e'
    rw [e] at this; simp at this; obtain ⟨rfl, rfl, rfl⟩ := this
    exact h.step.rel.lt_heap hb hro e'
  have hrel : Rel B ψ { H with blks := (res T i).new ++ H.blks } w' := {
    know := hst.rel.know
    hB := hst.rel.hB
    live := fun j b hb => by
      show j < H.next
      rcases (hgetH j b).1 hb with g | g
      · have := (hnewlt j b g).2; rw [h.hnext]; omega
      · exact h.step.rel.live j b g
    fl := h.step.rel.fl
    blk := fun j b hb => by
      rcases (hgetH j b).1 hb with g | g
      · exact hst.rel.blk j b ((hnew j b).1 g).2
      · exact hg.blk j b g
    inj := fun j k b c p s mm q t n hj hk' hb hc e1 e2 hne hfl => by
      rcases (hgetH j b).1 hj with g1 | g1 <;> rcases (hgetH k c).1 hk' with g2 | g2
      · exact hst.rel.inj j k b c p s mm q t n ((hnew j b).1 g1).2 ((hnew k c).1 g2).2 hb hc e1 e2 hne (.inl (by rw [hst.flo]; exact ((hnew j b).1 g1).1))
      · have := hnewown j b p s mm g1 hb e1
        have := holdlt k c q t n g2 hc e2
        omega
      · have := hnewown k c q t n g2 hc e2
        have := holdlt j b p s mm g1 hb e1
        omega
      · exact hg.inj j k b c p s mm q t n g1 g2 hb hc e1 e2 hne hfl }
  have hone : One is e0 T i := ⟨o, ho, hwk, hk⟩
  have hntwo : ¬ Two is e0 T i := fun ⟨o', ho', _, _, g⟩ => by rw [ho] at ho'; simp at ho'; subst ho'; exact g hk
  refine h.make D tr hm ho hdeps hi hle (fun j hj => hst.emb j (by rcases hj with hj | hj; exact .inl hj; exact .inr (by rw [hnx]; exact hj))) (by rw [hres]; exact hv) hd h.le
    (fun k d h1 h2 h3 => .inl (h.base1 k d h1 h2 h3)) (fun k h1 h2 h3 => by rcases h3 with h3 | rfl; exact h.base2 k h1 h2 h3; exact hntwo h2) h.seg0 h.bnd
    (fun k h1 h2 h3 j b hb => by
      rcases h1 with h1 | rfl
      · exact h.nb k h1 h2 h3 j b hb
      · exact hnewlt j b hb) h.bfl h.hnext h.hfloor ?_ ?_
  · intro j b
    rw [hgetH j b, h.get j b]
    constructor
    · rintro (g | g | ⟨k, a1, a2, a3, a4⟩)
      · exact .inr ⟨i, hmi, .inr rfl, hone, g⟩
      · exact .inl g
      · exact .inr ⟨k, a1, .inl a2, a3, a4⟩
    · rintro (g | ⟨k, a1, a2, a3, a4⟩)
      · exact .inr (.inl g)
      · rcases a2 with a2 | rfl
        · exact .inr (.inr ⟨k, a1, a2, a3, a4⟩)
        · exact .inl a4
  · refine ⟨hrel, fun j hj => ?_, h.step.nxt, h.step.flo, fun j hj => ?_, fun j b hj hb => ?_, hst.os.trans h.step.os, hst.tape.trans h.step.tape, hst.output.trans h.step.output, Nat.le_trans h.step.size hst.size, fun p hp hn => ?_, fun p hp => ?_⟩
    · have hj' : j < H0.next ∨ H.next ≤ j := hj
      rw [h.hnext] at hj'
      rw [hst.emb j (by
        show j < (T i).next ∨ H1.next ≤ j
        omega)]
      exact h.step.emb j hj
    · rw [← h.step.old j hj]
      show lk ((res T i).new ++ H.blks) j = lk H.blks j
      rw [lk_append, lk_none_of fun b hb => by have := (hnewlt j b hb).1; omega]
      rfl
    · rcases (hgetH j b).1 hb with g | g
      · have := (hnewlt j b g).1; omega
      · exact h.step.sub j b hj g
    · have := h.step.size
      rw [hframe p (by omega)]
      exact h.step.frame p hp hn
    · obtain ⟨j, b, s, mm, f1, f2, f3, f4⟩ := hp
      rcases (hgetH j b).1 f2 with g | g
      · have := hnewown j b p s mm g f3 f4
        have := h.step.size
        exact .inr (by omega)
      · refine h.step.foot p ⟨j, b, s, mm, f1, g, f3, ?_⟩
        obtain ⟨p', s', m', e', _⟩ := h.step.rel.blk j b g
        have := hle _ _ e'
        rw [f4] at this; simp at this; obtain ⟨rfl, rfl, rfl⟩ := this
        exact e'

end
end Go.Am
