/-
A region that draws its order, at last: in whatever order, it leaves what the one walk leaves. Conditions: those that each theorem names.
-/
import Derived.Test.YtjpppajbhpbkiaaDoorAm21
set_option linter.unusedSimpArgs false
set_option linter.unusedVariables false
namespace Go.Am
open Go.RowKit

section
variable {P : Program} {B : Base} {call : Call} {nt : Nat} {ops : Array Oper} {is : List DIns} {e0 : Env} {H0 : AH} {T : Nat → DSt}

theorem Inv.start (tr : Tr call is e0 H0 T) (hm : CallMono call) {a0 : Act} {φ0 : Emb} {w0 : World} (hr : Rel B φ0 H0 w0) (hf : Free φ0 H0.next (T is.length).next) :
    Inv call B is e0 H0 T a0 φ0 w0 (fun _ => False) a0 w0 φ0 0 { H0 with next := (T is.length).next } where
  le := Nat.zero_le _
  dn := fun j d h => h.elim
  sub := fun j h => h.elim
  base1 := fun k d _ _ h => absurd h (Nat.not_lt_zero _)
  base2 := fun k _ _ h => h
  seg0 := by rw [tr.zero]
  bnd := fun i b hb => by rw [tr.zero] at hb ⊢; exact hr.live i b hb
  nb := fun k h => h.elim
  bfl := by rw [tr.zero]
  hnext := rfl
  hfloor := rfl
  get := fun i b => by
    rw [tr.zero]
    constructor
    · intro h; exact .inl h
    · rintro (h | ⟨k, _, h, _⟩)
      · exact h
      · exact h.elim
  step := by
    have h1 := tr.next_mono hm (j := 0) (k := is.length) (by omega) (Nat.le_refl _)
    rw [tr.zero] at h1
    have h1' : H0.next ≤ (T is.length).next := h1
    have h2 := hr.fl
    exact ⟨hr.sub (fun i b hb => hb) (fun i b hb => by have := hr.live i b hb; show i < (T is.length).next; omega) (by show H0.floor ≤ (T is.length).next; omega) (Nat.le_refl _), fun _ _ => rfl, h1', rfl, fun _ _ => rfl,
      fun i b _ hb => ⟨b, hb, rfl⟩, rfl, rfl, rfl, Nat.le_refl _, fun _ _ _ => rfl, fun p hp => .inl hp⟩
  free := fun k hk _ => hf.mono (by have := tr.next_mono hm (j := 0) (k := k) (by omega) (by omega); rw [tr.zero] at this; exact this) (tr.next_mono hm (by omega) (Nat.le_refl _))
  env1 := fun k d t h => h.elim
  env2 := fun t _ => rfl
  size := rfl
  defers := rfl

theorem Inv.congrS {a0 φ0 w0 S S' a w φ m H} (h : Inv call B is e0 H0 T a0 φ0 w0 S a w φ m H) (e : ∀ k, S k ↔ S' k) : Inv call B is e0 H0 T a0 φ0 w0 S' a w φ m H := by
  have : S = S' := funext fun k => propext (e k)
  rw [← this]; exact h

/-- When all is done. -/
theorem Inv.last {a0 φ0 w0 S a w φ m H} (h : Inv call B is e0 H0 T a0 φ0 w0 S a w φ m H) (tr : Tr call is e0 H0 T) (hS : ∀ k, k < is.length → S k) (he0 : EnvR φ0 e0 a0.tmps) (hf : Free φ0 H0.next (T is.length).next) :
    Step B φ0 H0 w0 φ { (T is.length).base with blks := (T is.length).seg.flatMap (·.new) ++ (T is.length).base.blks, next := (T is.length).next } w ∧
    EnvR φ ((T is.length).done.flatMap (fun r => match r.dst with | some d => [(d, r.v)] | none => []) ++ e0) a.tmps := by
  have hlt : ∀ k, Two is e0 T k → k < is.length := fun k ⟨d, hd, _⟩ => Tr.lt_of hd
  obtain ⟨hbase, hseg⟩ := tr.seg h.seg0 h.le (Nat.le_refl _) fun k h1 _ h3 => h.base2 k h1 h3 (hS k (hlt k h3))
  have hget := h.seen hbase hseg fun k _ ⟨d, hd, _⟩ => ⟨fun hk => hS k hk, fun _ => Tr.lt_of hd⟩
  have hle : φ0.le φ := h.step.le (by rw [h.hnext]; exact hf)
  refine ⟨h.step.congr hget h.hnext.symm ?_, fun t => ?_⟩
  · show (T is.length).base.floor = H.floor
    rw [hbase, h.bfl, h.hfloor]
  · unfold Env.at
    rw [lk_append]
    cases h1 : lk ((T is.length).done.flatMap (fun r => match r.dst with | some d => [(d, r.v)] | none => [])) t with
    | some v =>
      simp only [Option.some_or, Option.getD_some]
      have : ∃ r ∈ (T is.length).done, r.dst = some t ∧ r.v = v := by
        clear h hbase hseg hget
        revert h1
        induction (T is.length).done with
        | nil => simp [lk]
        | cons r L ih =>
          intro h1
          rw [List.flatMap_cons, lk_append] at h1
          cases hd : r.dst with
          | none => simp [hd, lk] at h1; obtain ⟨q, q1, q2⟩ := ih h1; exact ⟨q, by simp [q1], q2⟩
          | some d =>
            simp only [hd, lk] at h1
            by_cases hdt : d = t
            · simp [hdt] at h1; exact ⟨r, by simp, by rw [hd, hdt], h1⟩
            · simp [hdt] at h1; obtain ⟨q, q1, q2⟩ := ih h1; exact ⟨q, by simp [q1], q2⟩
      obtain ⟨r, hr, hrd, rfl⟩ := this
      obtain ⟨k, hk, rfl⟩ := (tr.done_mem is.length (Nat.le_refl _) r).1 hr
      obtain ⟨ok, hok⟩ := Tr.some_of hk
      exact h.env1 k ok t (hS k hk) hok (by rw [← (tr.res_cons hok).2.2]; exact hrd)
    | none =>
      simp only [Option.none_or]
      have hno : ∀ (k : Nat) (d : DIns), S k → is[k]? = some d → d.ins.dst ≠ some t := by
        intro k d hk hd hdst
        have hmem : res T k ∈ (T is.length).done := (tr.done_mem is.length (Nat.le_refl _) _).2 ⟨k, Tr.lt_of hd, rfl⟩
        exact lk_dst_none h1 hmem (by rw [(tr.res_cons hd).2.2]; exact hdst)
      rw [h.env2 t hno]
      exact (he0 t).mono hle

/-- The operations that are not yet listed. -/
def left (l : Array Bool) : Nat := l.toList.countP (fun b => !b)

theorem left_set {l : Array Bool} {i : Nat} (h : l.getD i true = false) : left (l.setIfInBounds i true) + 1 = left l := by
  have hi : l[i]? = some false := by
    cases hx : l[i]? with
    | none => simp [Array.getD_eq_getD_getElem?, hx] at h
    | some b => simp [Array.getD_eq_getD_getElem?, hx] at h; rw [h]
  have hlt : i < l.toList.length := by simpa using (Array.getElem?_eq_some_iff.1 hi).1
  have hgi : l.toList[i] = false := by
    have := (Array.getElem?_eq_some_iff.1 hi).2
    simpa using this
  unfold left
  rw [Array.toList_setIfInBounds, List.countP_set hlt, hgi]
  have hpos : 0 < l.toList.countP (fun b => !b) := List.countP_pos_iff.2 ⟨false, by rw [← hgi]; exact List.getElem_mem hlt, rfl⟩
  simp only [Bool.not_false, Bool.not_true, if_true, Bool.false_eq_true, if_false]
  omega

theorem wpAny_inv (D : DOk P nt ops is) (tr : Tr call is e0 H0 T) (hm : CallMono call) (hcall : CallOk P B call) {a0 φ0 w0} (hg : GlobR P φ0) (he0 : EnvR φ0 e0 a0.tmps) (hfl0 : H0.floor ≤ H0.next) (hn : nt ≤ a0.tmps.size)
    (hf : Free φ0 H0.next (T is.length).next) {Q : Exit → Act → World → Prop}
    (hQ : ∀ S a w φ m H, Inv call B is e0 H0 T a0 φ0 w0 S a w φ m H → (∀ k, k < is.length → S k) → Q .normal a w) : ∀ (fuel : Nat) (listed : Array Bool) (a : Act) (w : World) (φ : Emb) (m : Nat) (H : AH),
    listed.size = ops.size → left listed ≤ fuel → Inv call B is e0 H0 T a0 φ0 w0 (fun k => listed.getD k false = true) a w φ m H → wpAny P .any ops Q fuel listed a w := by
  have all_of : ∀ (listed : Array Bool), listed.size = ops.size → Region.ready .any ops listed = [] → ∀ k, k < is.length → listed.getD k false = true := by
    intro listed hsz hr k
    induction k using Nat.strongRecOn with
    | ind k ih =>
      intro hk
      cases hx : listed.getD k false with
      | true => rfl
      | false =>
        exfalso
        have hko : k < ops.size := by rw [← D.len]; exact hk
        have hkl : k < listed.size := by omega
        have hmem : k ∈ Region.ready .any ops listed := by
          refine mem_ready.2 ⟨?_, ops[k], by simp [hko], fun e he hb => ?_⟩
          · simp [Array.getD_eq_getD_getElem?, hkl] at hx ⊢; exact hx
          · obtain ⟨d, hd⟩ := Tr.some_of hk
            have := D.edge (by simp [hko] : ops[k]? = some ops[k]) hd e (by simpa using he) hb
            have hlt := D.lt hd this
            exact ih e.on hlt (by omega)
        rw [hr] at hmem; cases hmem
  intro fuel
  induction fuel with
  | zero =>
    intro listed a w φ m H hsz hl h
    have hall : ∀ b ∈ listed.toList, b = true := fun b hb => by
      have := (List.countP_eq_zero.1 (Nat.le_zero.1 hl)) b hb
      cases b <;> simp_all
    have hlall : ∀ k, k < listed.size → listed.getD k false = true := fun k hk => by
      simp [Array.getD_eq_getD_getElem?, hk]
      exact hall _ (by simp)
    refine ⟨?_, hQ _ a w φ m H h fun k hk => hlall k (by rw [hsz, ← D.len]; exact hk)⟩
    cases hr : Region.ready .any ops listed with
    | nil => rfl
    | cons k ks =>
      exfalso
      have hmem : k ∈ Region.ready .any ops listed := by rw [hr]; simp
      obtain ⟨h0, o, ho, _⟩ := mem_ready.1 hmem
      have hko := (Array.getElem?_eq_some_iff.1 ho).1
      have := hlall k (by omega)
      have hkl : k < listed.size := by omega
      simp [Array.getD_eq_getD_getElem?, hkl] at h0 this
      rw [h0] at this; cases this
  | succ fuel ih =>
    intro listed a w φ m H hsz hl h
    refine ⟨fun hr => hQ _ a w φ m H h (all_of listed hsz hr), fun i hi => ?_⟩
    obtain ⟨h0, o, ho, hall⟩ := mem_ready.1 hi
    have hio := (Array.getElem?_eq_some_iff.1 ho).1
    have hil : i < listed.size := by omega
    refine h.next D tr hm hcall hg he0 hfl0 hn hf ho ?_ (fun e he hb => hall e (by simpa using he) hb) fun ψ a' w' m' H' h' => ?_
    · simp [Array.getD_eq_getD_getElem?, hil] at h0 ⊢; exact h0
    · refine ih _ a' w' ψ m' H' (by simpa using hsz) (by have := left_set h0; omega) (h'.congrS fun k => ?_)
      by_cases hki : k = i
      · subst hki
        simp [hil]
      · have : (listed.setIfInBounds i true).getD k false = listed.getD k false := getD_set_ne false (Ne.symm hki)
        rw [this]
        simp [hki]

theorem regd_ok (hcall : CallOk P B call) (hm : CallMono call) (hmix : P.follows .mixedOrders = true) (D : DOk P nt ops is) {id : Nat} {Q : Exit → Act → World → Prop} {φ : Emb} {a : Act} {w : World} {s s' : St} {x : AX} (hx : runDr call is s = some (x, s'))
    (hr : Rel B φ s.H w) (hg : GlobR P φ) (he : EnvR φ s.e a.tmps) (hn : nt ≤ a.tmps.size) (hf : Free φ s.H.next s'.H.next)
    (hQ : ∀ ψ ex a' w', XR ψ x ex → Step B φ s.H w ψ s'.H w' → EnvR ψ s'.e a'.tmps → a'.tmps.size = a.tmps.size → a'.defers = a.defers → Q ex a' w') : (Code.region id ops true).wp P Q a w := by
  unfold runDr at hx
  split at hx
  · rename_i t ht
    simp only [Option.some.injEq, Prod.mk.injEq] at hx
    obtain ⟨rfl, rfl⟩ := hx
    obtain ⟨T, t0, t1, t2⟩ := runD_trace is 0 _ t ht
    have tr : Tr call is s.e s.H T := ⟨t0, fun k o hk => by have := t2 k o hk; simpa using this⟩
    simp only [Nat.zero_add] at t1
    subst t1
    have hal : Alike w { w with drawn := w.drawn + 1 } := ⟨rfl, rfl, rfl, rfl⟩
    refine wp_region_any hmix ?_
    refine wpAny_inv D tr hm hcall hg he hr.fl hn hf (fun S a' w' ψ m H hinv hall => ?_) ops.size _ a _ φ 0 _ (by simp) ?_ ((Inv.start tr hm (hr.alike hal) hf).congrS fun k => ?_)
    · obtain ⟨h1, h2⟩ := hinv.last tr hall he hf
      exact hQ ψ .normal a' w' .nrm ((Step.alike hr hal).trans h1) h2 hinv.size hinv.defers
    · unfold left
      exact Nat.le_trans List.countP_le_length (by simp)
    · constructor
      · exact False.elim
      · intro h
        simp only [Array.getD_eq_getD_getElem?, Array.getElem?_replicate] at h
        split at h <;> simp at h
  · cases hx

theorem runDr_next (hm : CallMono call) {s s' : St} {x : AX} (h : runDr call is s = some (x, s')) : s.H.next ≤ s'.H.next := by
  unfold runDr at h
  split at h
  · rename_i t ht
    simp only [Option.some.injEq, Prod.mk.injEq] at h
    obtain ⟨rfl, rfl⟩ := h
    obtain ⟨T, t0, t1, t2⟩ := runD_trace is 0 _ t ht
    have tr : Tr call is s.e s.H T := ⟨t0, fun k o hk => by have := t2 k o hk; simpa using this⟩
    have := tr.next_mono hm (j := 0) (k := is.length) (by omega) (Nat.le_refl _)
    rw [tr.zero] at this
    simp only [Nat.zero_add] at t1
    rw [← t1]
    exact this
  · cases h

end
end Go.Am
