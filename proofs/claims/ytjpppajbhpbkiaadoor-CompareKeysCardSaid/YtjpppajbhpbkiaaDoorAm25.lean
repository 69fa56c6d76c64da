/-
Calls by value: the callee sees its slices' cells in a heap of its own. Conditions: those that each theorem names.
-/
import Derived.Test.YtjpppajbhpbkiaaDoorAm24
set_option linter.unusedSimpArgs false
set_option linter.unusedVariables false
namespace Go.Am
open Go.RowKit

theorem flat1_any {φ ψ : Emb} {v : AV} {v' : Value} (hf : flat1 v = true) (h : VR φ v v') : VR ψ v v' := by
  cases h <;> first
    | (simp [flat1] at hf; done)
    | (constructor; exact .nil)
    | skip
  case func cs ds f h1 h2 =>
    cases cs with
    | nil =>
      have := h1.nil_inv
      refine VRs.func f ?_ .nil
      rw [this]; exact .nil
    | cons _ _ => simp [flat1] at hf

theorem flats_any {φ ψ : Emb} : ∀ {vs : List AV} {us : List Value}, vs.all flat1 = true → VRs φ vs us → VRs ψ vs us
  | [], us, _, h => by rw [h.nil_inv]; exact .nil
  | v :: vs, us, hf, h => by
    obtain ⟨u, us', rfl, h1, h2⟩ := h.cons_inv
    simp only [List.all_cons, Bool.and_eq_true] at hf
    exact .cons (flat1_any hf.1 h1) (flats_any hf.2 h2)

theorem flat2_any {φ ψ : Emb} {v : AV} {v' : Value} (hf : flat2 v = true) (h : VR φ v v') : VR ψ v v' := by
  cases v with
  | agg cs =>
    obtain ⟨ds, h1, rfl⟩ := h.agg_inv
    exact VR.agg (flats_any hf h1)
  | _ => exact flat1_any hf h

theorem flat2s_any {φ ψ : Emb} : ∀ {vs : List AV} {us : List Value}, vs.all flat2 = true → VRs φ vs us → VRs ψ vs us
  | [], us, _, h => by rw [h.nil_inv]; exact .nil
  | v :: vs, us, hf, h => by
    obtain ⟨u, us', rfl, h1, h2⟩ := h.cons_inv
    simp only [List.all_cons, Bool.and_eq_true] at hf
    exact .cons (flat2_any hf.1 h1) (flat2s_any hf.2 h2)

theorem flat1_flat2 {v : AV} (h : flat1 v = true) : flat2 v = true := by
  cases v <;> first | exact h | simp [flat1] at h

section
variable {P : Program} {B : Base}

/-- What is known of blocks handed over. -/
structure Views (B : Base) (w : World) (k k' : Nat) (bs : List (Nat × Blk)) (E : List (Nat × (Nat × Nat × Option Nat))) : Prop where
  le : k ≤ k'
  rng : ∀ i b, lk bs i = some b → k ≤ i ∧ i < k'
  rngE : ∀ i x, lk E i = some x → k ≤ i ∧ i < k'
  blk : ∀ i b, lk bs i = some b → ∃ p s m, lk E i = some (p, s, m) ∧ ∀ ψ, BR B ψ w b p s m

theorem Views.nil {w : World} (k : Nat) : Views B w k k [] [] := ⟨Nat.le_refl _, fun i b h => (by cases h), fun i b h => (by cases h), fun i b h => (by cases h)⟩

theorem Views.append {w : World} {k k' k'' : Nat} {bs bs' E E'} (h : Views B w k k' bs E) (h' : Views B w k' k'' bs' E') : Views B w k k'' (bs ++ bs') (E ++ E') where
  le := Nat.le_trans h.le h'.le
  rng := fun i b hb => by
    rw [lk_append] at hb
    have a1 := h.le; have a2 := h'.le
    cases hx : lk bs i with
    | some c => have := h.rng i c hx; omega
    | none => rw [hx, Option.none_or] at hb; have := h'.rng i b hb; omega
  rngE := fun i b hb => by
    rw [lk_append] at hb
    have a1 := h.le; have a2 := h'.le
    cases hx : lk E i with
    | some c => have := h.rngE i c hx; omega
    | none => rw [hx, Option.none_or] at hb; have := h'.rngE i b hb; omega
  blk := fun i b hb => by
    rw [lk_append] at hb
    cases hx : lk bs i with
    | some c =>
      rw [hx] at hb; simp at hb; subst hb
      obtain ⟨p, s, m, h1, h2⟩ := h.blk i c hx
      exact ⟨p, s, m, by rw [lk_append, h1]; rfl, h2⟩
    | none =>
      rw [hx, Option.none_or] at hb
      obtain ⟨p, s, m, h1, h2⟩ := h'.blk i b hb
      refine ⟨p, s, m, ?_, h2⟩
      rw [lk_append]
      cases hy : lk E i with
      | none => rw [Option.none_or]; exact h1
      | some x => have := h.rngE i x hy; have := h'.rng i b hb; omega

def Emb.has (ψ : Emb) (E : List (Nat × (Nat × Nat × Option Nat))) : Prop := ∀ i x, lk E i = some x → ψ i = some x

theorem Views.has {w : World} {k k' k'' : Nat} {bs bs' E E'} (h : Views B w k k' bs E) (h' : Views B w k' k'' bs' E') {ψ : Emb} (hh : ψ.has (E ++ E')) : ψ.has E ∧ ψ.has E' := by
  refine ⟨fun i x hx => hh i x (by rw [lk_append, hx]; rfl), fun i x hx => hh i x ?_⟩
  rw [lk_append]
  cases hy : lk E i with
  | none => rw [Option.none_or]; exact hx
  | some y => have := h.rngE i y hy; have := h'.rngE i x hx; omega

theorem view_br {w : World} {φ : Emb} {b : Blk} {p s : Nat} {m : Option Nat} (br : BR B φ w b p s m) {o n : Nat} (hl : o + n ≤ b.cells.length) (hf : ((b.cells.drop o).take n).all flat1 = true) (ψ : Emb) :
    BR B ψ w ⟨(b.cells.drop o).take n, b.ro, b.ty, false, false⟩ p (s + o) m where
  ro := br.ro
  own := fun hro => by
    obtain ⟨h1, r, h2, h3, h4, h5, h7, h6⟩ := br.own hro
    refine ⟨h1, r, h2, h3, ?_, fun e => by simp at e, fun e => by simp at e, fun j a c => h6 j (by omega) c⟩
    simp only [List.length_take, List.length_drop]
    omega
  cell := fun j v hj => by
    have hjn : j < n := by
      rcases Nat.lt_or_ge j n with h' | h'
      · exact h'
      · have hj' : ((b.cells.drop o).take n)[j]? = some v := hj
        rw [List.getElem?_eq_none (by simp; omega)] at hj'; cases hj'
    have hj' : ((b.cells.drop o).take n)[j]? = some v := hj
    have hmem : v ∈ (b.cells.drop o).take n := List.mem_of_getElem? hj'
    rw [List.getElem?_take_of_lt hjn, List.getElem?_drop] at hj'
    obtain ⟨v', e, hv⟩ := br.cell _ v hj'
    exact ⟨v', by rw [Nat.add_assoc]; exact e, flat1_any (List.all_eq_true.1 hf v hmem) hv⟩

theorem viewCs_ok {φ : Emb} {H : AH} {w : World} (hr : Rel B φ H w) : ∀ {l : List AV} {us : List Value} {k : Nat} {as bs k'}, viewCs H l k = some (as, bs, k') → VRs φ l us →
    ∃ E, Views B w k k' bs E ∧ as.length = l.length ∧ ∀ ψ : Emb, ψ.has E → VRs ψ as us
  | [], us, k, as, bs, k', h, hv => by
    simp [viewCs] at h
    obtain ⟨rfl, rfl, rfl⟩ := h
    exact ⟨[], Views.nil k, rfl, fun ψ _ => by rw [hv.nil_inv]; exact .nil⟩
  | v :: l, us, k, as, bs, k', h, hv => by
    obtain ⟨u, us', rfl, hv1, hv2⟩ := hv.cons_inv
    simp only [viewCs] at h
    split at h
    · rename_i hf
      split at h
      · rename_i as1 bs1 k1 h1
        simp at h; obtain ⟨rfl, rfl, rfl⟩ := h
        obtain ⟨E, a1, a3, a2⟩ := viewCs_ok hr h1 hv2
        exact ⟨E, a1, by simp [a3], fun ψ hψ => .cons (flat1_any hf hv1) (a2 ψ hψ)⟩
      · cases h
    · split at h
      · rename_i i o z n c hnf
        split at h
        · rename_i b hb
          split at h
          · rename_i hc
            split at h
            · rename_i as1 bs1 k1 h1
              simp at h; obtain ⟨rfl, rfl, rfl⟩ := h
              obtain ⟨E, a1, a3, a2⟩ := viewCs_ok hr h1 hv2
              obtain ⟨p, s, m, e, br⟩ := hr.blk i b hb
              have hone : Views B w k (k + 1) [(k, ⟨(b.cells.drop o).take (n * z), b.ro, b.ty, false, false⟩)] [(k, (p, s + o, m))] := by
                refine ⟨Nat.le_succ _, fun j c hj => ?_, fun j c hj => ?_, fun j c hj => ?_⟩
                · simp only [lk] at hj; split at hj <;> simp at hj; omega
                · simp only [lk] at hj; split at hj <;> simp at hj; omega
                · simp only [lk] at hj
                  split at hj
                  · rename_i ejk
                    simp at hj; subst hj
                    exact ⟨p, s + o, m, by simp [lk, ejk], fun ψ => view_br br hc.1 hc.2 ψ⟩
                  · simp at hj
              have happ := hone.append a1
              refine ⟨_, happ, by simp [a3], fun ψ hψ => ?_⟩
              obtain ⟨g1, g2⟩ := hone.has a1 hψ
              have gk : ψ k = some (p, s + o, m) := g1 k _ (by simp [lk])
              refine .cons ?_ (a2 ψ g2)
              rcases hv1.sl_inv with ⟨p', s', m', cc, e1, e2, e3, e4, rfl⟩ | ⟨e1, e2, ad, rfl⟩
              · rw [e] at e1; simp at e1; obtain ⟨rfl, rfl, rfl⟩ := e1
                have := VRs.sl (φ := ψ) (i := k) (o := 0) (z := z) (n := n) (c := c) (cc := cc) gk (fun r hr' => by have := e2 r hr'; omega) e3 e4 .nil
                exact this
              · subst e1
                exact VRs.slz ad e2 .nil
            · cases h
          · cases h
        · cases h
      · cases h

theorem views_ok {φ : Emb} {H : AH} {w : World} (hr : Rel B φ H w) : ∀ {l : List AV} {us : List Value} {k : Nat} {as bs k'}, views H l k = some (as, bs, k') → VRs φ l us →
    ∃ E, Views B w k k' bs E ∧ ∀ ψ : Emb, ψ.has E → VRs ψ as us
  | [], us, k, as, bs, k', h, hv => by
    simp [views] at h
    obtain ⟨rfl, rfl, rfl⟩ := h
    exact ⟨[], Views.nil k, fun ψ _ => by rw [hv.nil_inv]; exact .nil⟩
  | v :: l, us, k, as, bs, k', h, hv => by
    obtain ⟨u, us', rfl, hv1, hv2⟩ := hv.cons_inv
    have one : ∀ {x : Option (List AV × List (Nat × Blk) × Nat)}, (match viewCs H [v] k with
        | some ([v'], bs, k') => match views H l k' with
          | some (as, bs', k'') => some (v' :: as, bs ++ bs', k'')
          | none => none
        | _ => none) = some (as, bs, k') → ∃ E, Views B w k k' bs E ∧ ∀ ψ : Emb, ψ.has E → VRs ψ as (u :: us') := by
      intro _ h
      split at h
      · rename_i v' bs1 k1 h1
        split at h
        · rename_i as2 bs2 k2 h2
          simp at h; obtain ⟨rfl, rfl, rfl⟩ := h
          obtain ⟨E1, a1, _, a2⟩ := viewCs_ok hr h1 (VRs.cons hv1 .nil)
          obtain ⟨E2, b1, b2⟩ := views_ok hr h2 hv2
          refine ⟨_, a1.append b1, fun ψ hψ => ?_⟩
          obtain ⟨g1, g2⟩ := a1.has b1 hψ
          exact .cons (a2 ψ g1).head (b2 ψ g2)
        · cases h
      · cases h
    cases v with
    | agg cs =>
      simp only [views] at h
      split at h
      · rename_i cs' bs1 k1 h1
        split at h
        · rename_i as2 bs2 k2 h2
          simp at h; obtain ⟨rfl, rfl, rfl⟩ := h
          obtain ⟨ds, hd, rfl⟩ := hv1.agg_inv
          obtain ⟨E1, a1, _, a2⟩ := viewCs_ok hr h1 hd
          obtain ⟨E2, b1, b2⟩ := views_ok hr h2 hv2
          refine ⟨_, a1.append b1, fun ψ hψ => ?_⟩
          obtain ⟨g1, g2⟩ := a1.has b1 hψ
          exact .cons (VR.agg (a2 ψ g1)) (b2 ψ g2)
        · cases h
      · cases h
    | _ => exact one (x := none) h

/-- The heap of one's own of a call by value. -/
theorem views_rel {φ : Emb} {H : AH} {w : World} (hr : Rel B φ H w) {l : List AV} {us : List Value} {as bs k'} (h : views H l B.G = some (as, bs, k')) (hv : VRs φ l us) :
    ∃ φp : Emb, Rel B φp ⟨bs ++ B.T, k', k'⟩ w ∧ VRs φp as us ∧ (∀ g, g < B.G → φp g = some (g, 0, none)) ∧ ∀ i, k' ≤ i → φp i = none := by
  obtain ⟨E, h1, h2⟩ := views_ok hr h hv
  have hG := h1.le
  let φp : Emb := fun i => if i < B.G then some (i, 0, none) else lk E i
  have hhas : φp.has E := fun i x hx => by
    have := h1.rngE i x hx
    show (if i < B.G then some (i, 0, none) else lk E i) = some x
    rw [if_neg (by omega)]; exact hx
  have hglob : ∀ g, g < B.G → φp g = some (g, 0, none) := fun g hg => by
    show (if g < B.G then some (g, 0, none) else lk E g) = _
    rw [if_pos hg]
  have hget : ∀ i b, ({ blks := bs ++ B.T, next := k', floor := k' } : AH).get i = some b → (lk bs i = some b) ∨ (lk bs i = none ∧ lk B.T i = some b) := fun i b hb => by
    have hb' : lk (bs ++ B.T) i = some b := hb
    rw [lk_append] at hb'
    cases hx : lk bs i with
    | some c => rw [hx] at hb'; exact .inl hb'
    | none => rw [hx, Option.none_or] at hb'; exact .inr ⟨rfl, hb'⟩
  refine ⟨φp, ⟨hr.know, hr.hB, fun i b hb => ?_, Nat.le_refl _, fun i b hb => ?_, fun i j b c p s m q t n hi hj hb hc e1 e2 hij hfl => ?_⟩, h2 φp hhas, hglob, fun i hi => ?_⟩
  · show i < k'
    rcases hget i b hb with g | ⟨_, g⟩
    · exact (h1.rng i b g).2
    · have := (hr.know.2 i b g).2.2.1; omega
  · rcases hget i b hb with g | ⟨_, g⟩
    · obtain ⟨p, s, m, e1, e2⟩ := h1.blk i b g
      exact ⟨p, s, m, hhas i _ e1, e2 φp⟩
    · obtain ⟨k1, k2, k3, k4⟩ := hr.know.2 i b g
      refine ⟨i, 0, none, hglob i k3, fun _ => ⟨k2, rfl⟩, fun e => (by rw [k1] at e; cases e), fun j v hj => ?_⟩
      obtain ⟨v', e1, e2⟩ := k4 j v hj
      refine ⟨v', by rw [Nat.zero_add]; exact e1, e2.mono fun g x hx => ?_⟩
      unfold Go.Am.glob at hx
      split at hx
      · simp at hx; subst hx; exact hglob g (by assumption)
      · cases hx
  · exfalso
    have lt : ∀ i b, ({ blks := bs ++ B.T, next := k', floor := k' } : AH).get i = some b → i < k' := fun i b hb => by
      rcases hget i b hb with g | ⟨_, g⟩
      · exact (h1.rng i b g).2
      · have := (hr.know.2 i b g).2.2.1; omega
    have a1 := lt i b hi
    have a2 := lt j c hj
    have hfl' : k' ≤ i ∨ k' ≤ j := hfl
    omega
  · show (if i < B.G then some (i, 0, none) else lk E i) = none
    rw [if_neg (by omega)]
    cases hx : lk E i with
    | none => rfl
    | some x => have := h1.rngE i x hx; omega

/-- A block of the callee's goes over to the caller. -/
theorem Step.adopt {φ ψ : Emb} {H : AH} {w w' : World} (hr : Rel B φ H w) (hf : φ H.next = none) (hsz : w.heap.size ≤ w'.heap.size) (hheap : ∀ p, p < w.heap.size → w'.heap[p]? = w.heap[p]?)
    (hos : w'.os = w.os) (htp : w'.tape = w.tape) (hou : w'.output = w.output) {b : Blk} {p s : Nat} {m : Option Nat} (hro : b.ro = false) (hfl : b.cells.all flat1 = true) (br : BR B ψ w' b p s m) (hp : w.heap.size ≤ p) :
    Step B φ H w (φ.upd H.next (p, s, m)) { H with blks := (H.next, b) :: H.blks, next := H.next + 1 } w' := by
  have hle := Emb.le_upd (p, s, m) hf
  have ne : ∀ {i c}, H.get i = some c → i ≠ H.next := fun hb e => by have := hr.live _ _ hb; omega
  have hget : ∀ i, ({ H with blks := (H.next, b) :: H.blks, next := H.next + 1 } : AH).get i = if i = H.next then some b else H.get i := fun i => by
    show lk ((H.next, b) :: H.blks) i = _
    simp only [lk]
    by_cases e : H.next = i
    · rw [if_pos e, if_pos e.symm]
    · rw [if_neg e, if_neg (Ne.symm e)]; rfl
  have hg := hr.grow hle hsz hheap
  refine ⟨⟨hg.know, hg.hB, fun i c hc => ?_, ?_, fun i c hc => ?_, fun i j c d p1 s1 m1 q t n hi hj hc hd e1 e2 hij hfl2 => ?_⟩, fun i hi => ?_, Nat.le_succ _, rfl, fun i hi => ?_, fun i c hi hc => ?_, hos, htp, hou, hsz, fun q hq _ => hheap q hq, ?_⟩
  · rw [hget] at hc
    show i < H.next + 1
    split at hc
    · omega
    · have := hr.live i c hc; omega
  · have := hr.fl; show H.floor ≤ H.next + 1; omega
  · rw [hget] at hc
    split at hc
    · rename_i e
      subst e
      simp at hc; subst hc
      refine ⟨p, s, m, Emb.upd_same _ _ _, br.ro, br.own, fun j v hj => ?_⟩
      obtain ⟨v', e1, e2⟩ := br.cell j v hj
      exact ⟨v', e1, flat1_any (List.all_eq_true.1 hfl v (List.mem_of_getElem? hj)) e2⟩
    · exact hg.blk i c hc
  · rw [hget] at hi hj
    have old : ∀ {i c p s m}, H.get i = some c → c.ro = false → φ.upd H.next (p, s, m) i = some (p1, s1, m1) → p1 < w.heap.size := fun {i c p s m} hi hc e => by
      rw [Emb.upd_other _ _ _ (ne hi)] at e
      exact hr.lt_heap hi hc e
    have old2 : ∀ {i c p s m}, H.get i = some c → c.ro = false → φ.upd H.next (p, s, m) i = some (q, t, n) → q < w.heap.size := fun {i c p s m} hi hc e => by
      rw [Emb.upd_other _ _ _ (ne hi)] at e
      exact hr.lt_heap hi hc e
    split at hi
    · rename_i ei
      subst ei
      rw [if_neg (Ne.symm hij)] at hj
      have := old2 hj hd e2
      rw [Emb.upd_same] at e1; simp at e1
      omega
    · split at hj
      · rename_i ej
        subst ej
        have := old hi hc e1
        rw [Emb.upd_same] at e2; simp at e2
        omega
      · exact hg.inj i j c d p1 s1 m1 q t n hi hj hc hd e1 e2 hij hfl2
  · refine Emb.upd_other _ _ _ ?_
    have : ({ H with blks := (H.next, b) :: H.blks, next := H.next + 1 } : AH).next = H.next + 1 := rfl
    omega
  · have := hr.fl
    rw [hget, if_neg (by omega)]
  · rw [hget, if_neg (by omega)] at hc
    exact ⟨c, hc, rfl⟩
  · rintro q ⟨i, c, s1, m1, f1, f2, f3, f4⟩
    rw [hget] at f2
    split at f2
    · rename_i ei
      subst ei
      rw [Emb.upd_same] at f4; simp at f4
      exact .inr (by omega)
    · rw [Emb.upd_other _ _ _ (ne f2)] at f4
      exact .inl ⟨i, c, s1, m1, f1, f2, f3, f4⟩

/-- Results handed back. -/
theorem backs_ok {φ φp ψ2 : Emb} {H Hp H2 : AH} {w w' : World} {kp : Nat} (hr : Rel B φ H w) (hkp : Hp.floor = kp) (hempty : ∀ p, ¬ Foot φp Hp p) (h : Step B φp Hp w ψ2 H2 w') : ∀ {vs : List AV} {us : List Value} {vs' : List AV} {H' : AH}, backs H2 kp H vs = some (vs', H') → VRs ψ2 vs us → Free φ H.next H'.next →
    ∃ ψ, Step B φ H w ψ H' w' ∧ VRs ψ vs' us
  | [], us, vs', H', hb, hv, hf => by
    simp [backs] at hb
    obtain ⟨rfl, rfl⟩ := hb
    have hframe : ∀ p, p < w.heap.size → w'.heap[p]? = w.heap[p]? := fun p hp => h.frame p hp (hempty p)
    refine ⟨φ, ⟨hr.grow (Emb.le_refl _) h.size hframe, fun _ _ => rfl, Nat.le_refl _, rfl, fun _ _ => rfl, fun i b _ hb => ⟨b, hb, rfl⟩, h.os, h.tape, h.output, h.size, fun p hp _ => hframe p hp, fun p hp => .inl hp⟩, ?_⟩
    rw [hv.nil_inv]; exact .nil
  | v :: vs, us, vs', H', hb, hv, hf => by
    obtain ⟨u, us', rfl, hv1, hv2⟩ := hv.cons_inv
    simp only [backs] at hb
    split at hb
    · rename_i hfl
      split at hb
      · rename_i vs1 H1 h1
        simp at hb; obtain ⟨rfl, rfl⟩ := hb
        obtain ⟨ψ, a1, a2⟩ := backs_ok hr hkp hempty h h1 hv2 hf
        exact ⟨ψ, a1, .cons (flat2_any hfl hv1) a2⟩
      · cases hb
    · split at hb
      · rename_i i o z n c hnf
        split at hb
        · rename_i hc
          split at hb
          · rename_i b hbi
            split at hb
            · rename_i hbc
              simp at hb; obtain ⟨rfl, rfl⟩ := hb
              have hframe : ∀ p, p < w.heap.size → w'.heap[p]? = w.heap[p]? := fun p hp => h.frame p hp (hempty p)
              obtain ⟨p, s, m, e, br⟩ := h.rel.blk i b hbi
              have hp : w.heap.size ≤ p := by
                rcases h.foot p ⟨i, b, s, m, by rw [h.flo, hkp]; exact hc.1, hbi, hbc.1, e⟩ with g | g
                · exact absurd g (hempty p)
                · exact g
              refine ⟨_, Step.adopt hr (hf H.next (Nat.le_refl _) (Nat.lt_succ_self _)) h.size hframe h.os h.tape h.output hbc.1 hbc.2 br hp, .cons ?_ (flat2s_any hc.2 hv2)⟩
              rcases hv1.sl_inv with ⟨p', s', m', cc, e1, e2, e3, e4, rfl⟩ | ⟨e1, e2, ad, rfl⟩
              · rw [e] at e1; simp at e1; obtain ⟨rfl, rfl, rfl⟩ := e1
                exact VRs.sl (Emb.upd_same _ _ _) e2 e3 e4 .nil
              · subst e1
                exact VRs.slz ad e2 .nil
            · cases hb
          · cases hb
        · cases hb
      · cases hb

theorem backs_next {H2 H : AH} {kp : Nat} : ∀ {vs vs' : List AV} {H' : AH}, backs H2 kp H vs = some (vs', H') → H.next ≤ H'.next
  | [], vs', H', hb => by simp [backs] at hb; obtain ⟨_, rfl⟩ := hb; exact Nat.le_refl _
  | v :: vs, vs', H', hb => by
    simp only [backs] at hb
    split at hb
    · split at hb
      · rename_i h1
        simp at hb; obtain ⟨_, rfl⟩ := hb
        exact backs_next h1
      · cases hb
    · split at hb
      · split at hb
        · split at hb
          · split at hb
            · simp at hb; obtain ⟨_, rfl⟩ := hb; exact Nat.le_succ _
            · cases hb
          · cases hb
        · cases hb
      · cases hb

end
end Go.Am
