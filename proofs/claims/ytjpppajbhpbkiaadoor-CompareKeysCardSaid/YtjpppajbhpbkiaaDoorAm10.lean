/-
Appends, copies, new slices: each does what the abstract machine's does. Conditions: the heap stands to the world, the temporaries to the values.
-/
import Derived.Test.YtjpppajbhpbkiaaDoorAm9
set_option linter.unusedSimpArgs false
set_option linter.unusedVariables false
namespace Go.Am
open Go.RowKit

section
variable {P : Program} {B : Base} {φ : Emb} {H H' : AH} {w : World} {a : Act} {e : Env} {o : Oper} {call : Call} {out : Out}

theorem exec_builtin {ρ : Operand → Value} {c : Go.Call} {b : Builtin} (ho : o.op = .call c) (hc : c.callee = .builtin b) :
    ∃ cs, execOp ρ o = builtin b c.argTypes o.type cs (c.args.map ρ) :=
  ⟨_, by simp [execOp, ho, resolve, hc, invoke]; rfl⟩

theorem takeFrom_len {z : Nat} {a : AV} {cs : List AV} (h : takeFrom H z a = some cs) : ∃ k, lenOf a = some k := by
  cases a <;> simp [takeFrom] at h <;> simp [lenOf]

theorem free_next (hf : Free φ H.next H'.next) (h : H'.next = H.next + 1) : φ H.next = none := hf _ (Nat.le_refl _) (by omega)

/-- The list that an append has made, in memory. -/
theorem appended_ok {as bs : List AV} {xs ys rest : List Value} (h1 : VRs φ as xs) (h2 : VRs φ bs ys) : ∀ (j : Nat) (v : AV), (as ++ bs)[j]? = some v → ∃ v', (xs ++ ys ++ rest).toArray[j]? = some v' ∧ VR φ v v' := by
  intro j v hj
  obtain ⟨v', e1, e2⟩ := (h1.append h2).get hj
  refine ⟨v', ?_, e2⟩
  have hlt : j < (xs ++ ys).length := by
    rcases Nat.lt_or_ge j (xs ++ ys).length with h' | h'
    · exact h'
    · rw [List.getElem?_eq_none h'] at e1; simp at e1
  simp only [List.getElem?_toArray]
  rw [List.getElem?_append_left hlt]
  exact e1

theorem div_len {n z k : Nat} (h : n = k * z) (hz : ¬ z = 0) : n / z = k := by subst h; exact Nat.mul_div_cancel _ (by omega)

theorem op_app {c : Go.Call} {t u el : TypeId} {ud : TypeDesc} {z bytes : Nat} {zl : List AV} {x y : Operand} {s r : AV} {new : List AV} (ho : o.op = .call c) (hc : c.callee = .builtin .append) (hts : c.argTypes = #[t, u]) (hargs : c.args = #[x, y])
    (hu : P.underlying t = some (.slice el)) (hu2 : P.underlying u = some ud) (hud : ud = .string ∨ ∃ e, ud = .slice e) (hsz : szOf P el = some z) (hby : byOf P el = some bytes) (hzero : zOf P el = some zl) (hzl : zl.length = z)
    (hs : VR φ s (a.eval x)) (hr : VR φ r (a.eval y)) (hnew : takeFrom H z r = some new) (hsol : new.all solid = true) (hrel : Rel B φ H w) (hf : Free φ H.next H'.next)
    (hx : aapp H el z bytes s new = some (out, H')) :
    Does P (Post B φ H w out H') ((execOp a.eval o).run P w) := by
  obtain ⟨k, hk⟩ := takeFrom_len hnew
  obtain ⟨hlen, hl, nds, hnv, hfirst, _⟩ := takeFrom_ok (P := P) hrel hnew hk hr
  obtain ⟨_, _, nds2, hnv2, hfirst2, _⟩ := takeFrom_ok (P := P) (hrel.alike (Alike.drew w)) hnew hk hr
  have hnl := hnv.length
  have hnl2 := hnv2.length
  obtain ⟨cs, hex⟩ := exec_builtin (ρ := a.eval) ho hc
  have hex' : execOp a.eval o = (do pure (.value (← Builtin.append_ #[t, u] o.type #[a.eval x, a.eval y]))) := by
    rw [hex, hts, hargs, show (#[x, y] : Array Operand).map a.eval = #[a.eval x, a.eval y] by simp]; rfl
  have hdrew := Step.alike hrel (Alike.drew w)
  unfold aapp at hx
  cases s with
  | nils =>
    simp only at hx
    split at hx
    · rename_i hcond
      obtain ⟨h1, h2, h3⟩ := hcond
      have hkz := div_len hlen h2
      obtain hsv := hs.nils_inv
      split at hx
      · rename_i hnil
        simp [ok1] at hx
        obtain ⟨rfl, rfl⟩ := hx
        subst hnil
        have hk0 : k = 0 := by simp at hkz; exact hkz.symm
        subst hk0
        obtain rfl := hnv.nil_inv
        refine does_same hrel hex' (v' := .slice none 0 0) ?_ (VRs.nils .nil)
        rw [hsv]
        exact fit_ok (base := none) (n := 0) (k := 0) hu hu2 hud hsz (Nat.le_refl _) hl hfirst (fun a h => by cases h) (fun _ => rfl)
      · rename_i hnil
        simp [ok1] at hx
        obtain ⟨rfl, rfl⟩ := hx
        have hkpos : 0 < k := by
          rcases Nat.eq_zero_or_pos k with h | h
          · subst h; simp at hlen; exact absurd hlen hnil
          · exact h
        have hold : (Builtin.firstCells z 0 (.slice none 0 0)).run P w.drew = .ok ([] : List Value).toArray w.drew := by simp [Builtin.firstCells]
        obtain ⟨cap, rest, hc1, hc2, hrun⟩ := grow_ok (ty := o.type) (base := none) (n := 0) (cc := 0) hu hu2 hud hsz hby hzero hzl (by omega) (by rw [Nat.zero_add, ← hkz]; exact h1) hl hold hfirst2
        have hn : φ H.next = none := hf _ (Nat.le_refl _) (by show H.next < H.next + 1; omega)
        have hsz2 : ([] ++ nds2 ++ rest).toArray.size = cap * z := by
          have : k * z ≤ cap * z := Nat.mul_le_mul_right _ (by omega)
          simp only [List.size_toArray, List.length_append, List.length_nil, hc2, Nat.sub_mul, Nat.zero_add]
          omega
        have hpush := Step.push hdrew.rel el false new ([] ++ nds2 ++ rest).toArray hn (by simpa using appended_ok (rest := rest) (as := []) (xs := []) .nil hnv2) (by simp; omega) (fun h => by cases h)
        have hst := hdrew.trans hpush
        refine does_val hex' (v' := .slice (some ⟨w.heap.size, 0, none⟩) (0 + k) cap) ?_ hst ?_
        · rw [hsv]; exact hrun
        · rw [hkz, Nat.zero_add]
          have := VR.sl (φ := φ.upd H.next (w.heap.size, 0, some ([] ++ nds2 ++ rest).toArray.size)) (i := H.next) (o := 0) (z := z) (n := k) (cc := cap) (c := none) (Emb.upd_same _ _ _) (fun r hr => by simp only [Option.some.injEq] at hr; omega) (by omega) (fun d hd => by cases hd)
          exact this
    · simp at hx
  | sl i off z' n cp =>
    simp only at hx
    split at hx
    · rename_i hcond
      obtain ⟨rfl, h2, h1, h3⟩ := hcond
      have hkz := div_len hlen h2
      split at hx
      · rename_i hnil
        simp [ok1] at hx
        obtain ⟨rfl, rfl⟩ := hx
        subst hnil
        have hk0 : k = 0 := by simp at hkz; exact hkz.symm
        subst hk0
        obtain rfl := hnv.nil_inv
        refine does_same hrel hex' (v' := a.eval x) ?_ hs
        rcases hs.sl_inv with ⟨p, s, m, cc, e1, e2, e3, e4, e5⟩ | ⟨rfl, e1, ad, e5⟩
        · rw [e5]
          exact fit_ok (n := n) (k := 0) hu hu2 hud hsz (by omega) hl hfirst (fun a _ => by simp [storeCells]) (fun h => by cases h)
        · rw [e5]
          exact fit_ok (n := 0) (k := 0) hu hu2 hud hsz (Nat.le_refl _) hl hfirst (fun a _ => by simp [storeCells]) (fun h => by cases h)
      · rename_i hnil
        have hkpos : 0 < k := by
          rcases Nat.eq_zero_or_pos k with h | h
          · subst h; simp at hlen; exact absurd hlen hnil
          · exact h
        split at hx
        · rename_i old b hcells hb
          have hn : φ H.next = none := by
            refine hf _ (Nat.le_refl _) ?_
            split at hx
            · simp [ok1] at hx; obtain ⟨rfl, rfl⟩ := hx; show H.next < H.next + 1; omega
            · split at hx
              · simp [ok1] at hx; obtain ⟨rfl, rfl⟩ := hx; show H.next < H.next + 1; omega
              · simp at hx
          -- the growing ways, for both shapes of the old value
          have grows : ∀ (base : Option Addr) (cc : Nat) (ods : List Value), a.eval x = .slice base n cc → VRs φ old ods → cc < n + k → (Builtin.firstCells z' n (.slice base n cc)).run P w.drew = .ok ods.toArray w.drew → old.length = n * z' →
              ∀ (hway : (out, H') = (.ok (.sl H.next 0 z' (n + new.length / z') none), H.push el false (old ++ new)) ∨ (H.floor ≤ i ∧ ∃ s0, (out, H') = (.ok (.sl H.next 0 z' (n + new.length / z') none), H.turn i el s0 (old ++ new)))), Does P (Post B φ H w out H') ((execOp a.eval o).run P w) := by
            intro base cc ods hev hov hlt hof hol hway
            obtain ⟨cap, rest, hc1, hc2, hrun⟩ := grow_ok (ty := o.type) (base := base) (n := n) (cc := cc) hu hu2 hud hsz hby hzero hzl hlt (by rw [← hkz]; exact h1) hl hof hfirst2
            have hovl := hov.length
            have hsz2 : (ods ++ nds2 ++ rest).toArray.size = cap * z' := by
              have : (n + k) * z' ≤ cap * z' := Nat.mul_le_mul_right _ (by omega)
              rw [Nat.add_mul] at this
              simp only [List.size_toArray, List.length_append, hc2, Nat.sub_mul, Nat.add_mul]
              omega
            have hvr : VR (φ.upd H.next (w.heap.size, 0, some (ods ++ nds2 ++ rest).toArray.size)) (.sl H.next 0 z' (n + new.length / z') none) (.slice (some ⟨w.heap.size, 0, none⟩) (n + k) cap) := by
              rw [hkz]
              have := VR.sl (φ := φ.upd H.next (w.heap.size, 0, some (ods ++ nds2 ++ rest).toArray.size)) (i := H.next) (o := 0) (z := z') (n := n + k) (cc := cap) (c := none) (Emb.upd_same _ _ _) (fun r hr => by simp only [Option.some.injEq] at hr; omega) (by omega) (fun d hd => by cases hd)
              exact this
            rcases hway with hway | ⟨hfl, s0, hway⟩
            · simp only [Prod.mk.injEq] at hway
              obtain ⟨rfl, rfl⟩ := hway
              have hpush := Step.push hdrew.rel el false (old ++ new) (ods ++ nds2 ++ rest).toArray hn (appended_ok hov hnv2) (by simp; omega) (fun h => by cases h)
              refine does_val hex' (v' := .slice (some ⟨w.heap.size, 0, none⟩) (n + k) cap) ?_ (hdrew.trans hpush) hvr
              rw [hev]; exact hrun
            · simp only [Prod.mk.injEq] at hway
              obtain ⟨rfl, rfl⟩ := hway
              have hpush := Step.turnNew hdrew.rel hfl el (old ++ new) (ods ++ nds2 ++ rest).toArray s0 hn (appended_ok hov hnv2) (by simp; omega)
              refine does_val hex' (v' := .slice (some ⟨w.heap.size, 0, none⟩) (n + k) cap) ?_ (hdrew.trans hpush) hvr
              rw [hev]; exact hrun
          rcases hs.sl_inv with ⟨p, s, m, cc, e1, e2, e3, e4, e5⟩ | ⟨rfl, e1, ad, e5⟩
          · obtain ⟨hol, ods, hov, hocell⟩ := cellsAt_ok hrel hcells e1
            have hovl := hov.length
            have hof : (Builtin.firstCells z' n (.slice (some ⟨p, s + off, none⟩) n cc)).run P w.drew = .ok ods.toArray w.drew := by
              have := load_list (P := P) (w := w.drew) ods hocell
              rw [← hovl, hol] at this
              simp [Builtin.firstCells, this]
            split at hx
            · rename_i hcn
              simp [ok1] at hx
              have := e4 n hcn
              subst this
              exact grows _ _ _ e5 hov (by omega) hof hol (.inl (by rw [hx.1, hx.2]))
            · split at hx
              · rename_i hown
                obtain ⟨hro, hfl, hty⟩ := hown
                simp [ok1] at hx
                by_cases hroom : n + k ≤ cc
                · obtain ⟨q, s', m', e6, br⟩ := hrel.blk i b hb
                  rw [e1] at e6; simp at e6; obtain ⟨rfl, rfl, rfl⟩ := e6
                  obtain ⟨_, r', hm, _⟩ := br.own hro
                  subst hm
                  have hcells' := hcells
                  unfold AH.cellsAt at hcells'
                  simp only [hb] at hcells'
                  split at hcells' <;> simp at hcells'
                  rename_i hle
                  have hroom2 : s + off + cc * z' ≤ r' := e2 r' rfl
                  have hm2 : (n + k) * z' ≤ cc * z' := Nat.mul_le_mul_right _ hroom
                  rw [Nat.add_mul] at hm2
                  obtain ⟨hst, hstep⟩ := Step.turnIn (o := off) hrel hb hro hfl hn e1 old new nds (by rw [hol]; exact hcells'.symm) (by omega) hnv hsol (by omega)
                  obtain ⟨rfl, rfl⟩ := hx
                  subst hty
                  refine does_val hex' (v' := .slice (some ⟨p, s + off, none⟩) (n + k) cc) ?_ hstep ?_
                  · rw [e5]
                    refine fit_ok (n := n) (k := k) hu hu2 hud hsz hroom hl hfirst (fun ad had => ?_) (fun h => by cases h)
                    simp at had
                    subst had
                    rw [add_eq, ← hol]
                    exact hst P
                  · rw [hkz]
                    have := VR.sl (φ := φ.upd H.next (p, s + off, some r')) (i := H.next) (o := 0) (z := z') (n := n + k) (cc := cc) (c := none) (Emb.upd_same _ _ _) (fun r hr => by simp at hr; omega) hroom (fun d hd => by cases hd)
                    exact this
                · exact grows _ _ _ e5 hov (by omega) hof hol (.inr ⟨hfl, _, by rw [hx.1, hx.2]⟩)
              · simp at hx
          · have hol : old = [] := by
              unfold AH.cellsAt at hcells
              split at hcells
              · split at hcells <;> simp at hcells; first | exact hcells | exact hcells.symm
              · simp at hcells
            subst hol
            have hof : (Builtin.firstCells z' 0 (.slice (some ad) 0 0)).run P w.drew = .ok ([] : List Value).toArray w.drew := by simp [Builtin.firstCells, load_none]
            split at hx
            · simp only [ok1, Option.some.injEq, Prod.mk.injEq] at hx
              exact grows _ _ [] e5 .nil (by omega) hof (by simp) (.inl (by rw [← hx.1, ← hx.2]))
            · split at hx
              · rename_i hown
                simp only [ok1, Option.some.injEq, Prod.mk.injEq] at hx
                exact grows _ _ [] e5 .nil (by omega) hof (by simp) (.inr ⟨hown.2.1, _, by rw [← hx.1, ← hx.2]⟩)
              · simp at hx
        · simp at hx
    · simp at hx
  | _ => simp at hx

end
end Go.Am
