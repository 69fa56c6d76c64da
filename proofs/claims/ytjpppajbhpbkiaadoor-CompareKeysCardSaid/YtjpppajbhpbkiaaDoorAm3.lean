/-
What a store into a block, an append in place and the forgetting of blocks keep of the relation between the abstract heap and the world. Conditions: those that each theorem names.
-/
import Derived.Test.YtjpppajbhpbkiaaDoorAm2
import Derived.Laws.IdiomCopy
import Derived.Laws.Cells
set_option linter.unusedSimpArgs false
set_option linter.unusedVariables false
namespace Go.Am
open Go.RowKit

theorem setCells_heap (b : Nat) : ∀ (vs : List Value) (o : Nat) (w : World) (p : Nat), p ≠ b → (w.setCells b o vs).heap[p]? = w.heap[p]?
  | [], _, _, _, _ => rfl
  | v :: r, o, w, p, h => by rw [World.setCells, setCells_heap b r _ _ p h, Below.heap_setCell _ _ _ _ h]
theorem setCells_size (b : Nat) : ∀ (vs : List Value) (o : Nat) (w : World), (w.setCells b o vs).heap.size = w.heap.size
  | [], _, _ => rfl
  | v :: r, o, w => by rw [World.setCells, setCells_size b r]; simp
theorem setCells_rest (b : Nat) : ∀ (vs : List Value) (o : Nat) (w : World), (w.setCells b o vs).os = w.os ∧ (w.setCells b o vs).tape = w.tape ∧ (w.setCells b o vs).output = w.output
  | [], _, _ => ⟨rfl, rfl, rfl⟩
  | v :: r, o, w => by rw [World.setCells]; exact setCells_rest b r _ _
theorem setCell_shape (w : World) (a : Addr) (v : Value) (p : Nat) : (w.setCell a v).shape? p = w.shape? p := by
  simp only [World.setCell, World.shape?, Array.getElem?_modify]
  by_cases hb : a.block = p
  · simp only [hb, if_true]
    cases hh : w.heap[p]? with
    | none => simp
    | some x =>
      cases x <;> simp
      split <;> simp
  · simp [hb]
theorem setCells_shape (b : Nat) : ∀ (vs : List Value) (o : Nat) (w : World) (p : Nat), (w.setCells b o vs).shape? p = w.shape? p
  | [], _, _, _ => rfl
  | v :: r, o, w, p => by rw [World.setCells, setCells_shape b r, setCell_shape]

theorem putAt_length : ∀ (vs : List AV) (cs : List AV) (o : Nat), (putAt cs o vs).length = cs.length
  | [], _, _ => rfl
  | v :: vs, cs, o => by rw [putAt, putAt_length vs]; simp

theorem putAt_out : ∀ (vs : List AV) (cs : List AV) (o j : Nat), j < o ∨ o + vs.length ≤ j → (putAt cs o vs)[j]? = cs[j]?
  | [], _, _, _, _ => rfl
  | v :: vs, cs, o, j, h => by
    rw [putAt, putAt_out vs _ (o + 1) j (by simp at h; omega), List.getElem?_set_ne (by simp at h; omega)]

theorem putAt_in : ∀ (vs : List AV) (cs : List AV) (o j : Nat), o + vs.length ≤ cs.length → j < vs.length → (putAt cs o vs)[o + j]? = vs[j]?
  | [], _, _, _, _, h => by simp at h
  | v :: vs, cs, o, 0, h, _ => by
    rw [putAt, putAt_out vs _ (o + 1) (o + 0) (by omega)]
    simp at h
    simp [List.getElem?_set_self (show o < cs.length by omega)]
  | v :: vs, cs, o, j + 1, h, hj => by
    have := putAt_in vs (cs.set o v) (o + 1) j (by simp at h ⊢; omega) (by simpa using hj)
    rw [putAt, show o + (j + 1) = o + 1 + j by omega, this]
    simp

theorem get_put {H : AH} {i : Nat} {b : Blk} (j : Nat) : (H.put i b).get j = if j = i then (H.get i).map (fun _ => b) else H.get j := lk_rpl _ _ _ _

theorem add_eq (p o n : Nat) : (⟨p, o, none⟩ : Addr).add n = ⟨p, o + n, none⟩ := by unfold Addr.add; split <;> simp_all

/-- A store of cells into a block of one's own. -/
theorem Step.store {B φ H w H'} (h : Rel B φ H w) {i o : Nat} {vs : List AV} {ds : List Value} (hs : H.store i o vs = some H') (hv : VRs φ vs ds) :
    ∃ p s m, φ i = some (p, s, m) ∧ (∀ P : Program, (storeCells ⟨p, s + o, none⟩ ds).run P w = .ok () (w.setCells p (s + o) ds)) ∧ Step B φ H w φ H' (w.setCells p (s + o) ds) := by
  unfold AH.store at hs
  split at hs
  · simp at hs
  rename_i hfl
  split at hs
  · rename_i b hb
    split at hs
    · simp at hs
    rename_i hro
    split at hs
    · rename_i hlen
      obtain ⟨hlen, hsol⟩ := hlen
      simp at hs
      subst hs
      have hro : b.ro = false := by simpa using hro
      obtain ⟨p, s, m, e, br⟩ := h.blk i b hb
      obtain ⟨hBp, r, hm, hsh, hsr, hwh, hs0, hfz⟩ := br.own hro
      have hl := hv.length
      have hcell : ∀ j, j < b.cells.length → (w.cell? ⟨p, s + j, none⟩).isSome = true := fun j hj => by
        obtain ⟨v', e', _⟩ := br.cell j b.cells[j] (by simp [hj])
        simp [e']
      have hsolid : ∀ v ∈ ds, v.oneCell' = true := fun v hv' => by
        obtain ⟨j, hj, rfl⟩ := List.getElem_of_mem hv'
        have hj' : j < vs.length := by omega
        obtain ⟨u, e', hu⟩ := hv.get (i := j) (a := vs[j]) (by simp [hj'])
        have : u = ds[j] := by simpa [hj] using e'.symm
        subst this
        exact solid_ok hu (List.all_eq_true.1 hsol _ (List.getElem_mem hj'))
      refine ⟨p, s, m, e, fun P => ?_, ?_⟩
      · have := run_storeCells_cells (P := P) p (s + o) ds 0 w (fun j hj => by
          have := hcell (o + j) (by omega)
          rwa [show s + (o + j) = s + o + 0 + j by omega] at this) (fun j hj => hfz _ (by omega) (by omega)) hsolid
        simpa using this
      · have hrest := setCells_rest p ds (s + o) w
        have hne : ∀ {j c q t n}, H.get j = some c → φ j = some (q, t, n) → j ≠ i → BR B φ w c q t n → q ≠ p := fun {j c q t n} hj ej hji brj => by
          cases hcr : c.ro with
          | true => have := (brj.ro hcr).1; omega
          | false => exact h.inj j i c b q t n p s m hj hb hcr hro ej e hji (.inr (by omega))
        refine ⟨⟨h.know.keep (fun q hq => setCells_heap _ _ _ _ _ (by omega)) (by rw [setCells_size]; exact h.hB), ?_, ?_, h.fl, ?_, ?_⟩, fun _ _ => rfl, Nat.le_refl _, rfl, ?_, ?_, hrest.1, hrest.2.1, hrest.2.2, ?_, ?_, ?_⟩
        · rw [setCells_size]; exact h.hB
        · intro j c hj
          rw [get_put] at hj
          split at hj
          · rename_i ej; subst ej; exact h.live _ b hb
          · exact h.live j c hj
        · intro j c hj
          rw [get_put] at hj
          split at hj
          · rename_i ej
            subst ej
            rw [hb] at hj
            simp at hj
            subst hj
            refine ⟨p, s, m, e, br.ro, fun _ => ⟨hBp, r, hm, by rw [setCells_shape]; exact hsh, by simpa [putAt_length] using hsr, fun x => by simpa [putAt_length] using hwh x, hs0, fun j a b => by rw [World.frozen?_setCells]; exact hfz j a b⟩, fun j v hj => ?_⟩
            by_cases hin : o ≤ j ∧ j < o + vs.length
            · obtain ⟨k, rfl⟩ : ∃ k, j = o + k := ⟨j - o, by omega⟩
              rw [putAt_in vs b.cells o k hlen (by omega)] at hj
              obtain ⟨v', e', hv'⟩ := hv.get hj
              have hk : k < ds.length := by omega
              refine ⟨v', ?_, hv'⟩
              have := World.cell?_setCells_in p ds (s + o) w (fun j hj => by
                have := hcell (o + j) (by omega)
                rwa [show s + (o + j) = s + o + j by omega] at this) k hk
              rw [show s + (o + k) = s + o + k by omega, this]
              rw [List.getElem?_eq_getElem hk] at e'
              exact e'
            · rw [putAt_out vs b.cells o j (by omega)] at hj
              obtain ⟨v', e', hv'⟩ := br.cell j v hj
              refine ⟨v', ?_, hv'⟩
              rw [World.cell?_setCells_out p ds (s + o) w _ (fun _ _ => by simp; omega)]
              exact e'
          · rename_i ej
            obtain ⟨q, t, n, e', brj⟩ := h.blk j c hj
            exact ⟨q, t, n, e', brj.keep (Emb.le_refl φ) (setCells_heap _ _ _ _ _ (hne hj e' ej brj))⟩
        · intro j k c d q t n q' t' n' hj hk hc hd e1 e2 hjk
          rw [get_put] at hj hk
          have look : ∀ {j c}, (if j = i then (H.get i).map (fun _ => { b with cells := putAt b.cells o vs }) else H.get j) = some c → ∃ c', H.get j = some c' ∧ c'.ro = c.ro := fun {j c} hj => by
            split at hj
            · rename_i ej; subst ej; rw [hb] at hj; simp at hj; subst hj; exact ⟨b, hb, rfl⟩
            · exact ⟨c, hj, rfl⟩
          obtain ⟨c', hc1, hc2⟩ := look hj
          obtain ⟨d', hd1, hd2⟩ := look hk
          exact h.inj j k c' d' q t n q' t' n' hc1 hd1 (hc2.trans hc) (hd2.trans hd) e1 e2 hjk
        · intro j hj
          rw [get_put, if_neg (by omega)]
        · intro j c hj hc
          rw [get_put] at hc
          split at hc
          · rename_i ej; subst ej; rw [hb] at hc; simp at hc; subst hc; exact ⟨b, hb, rfl⟩
          · exact ⟨c, hc, rfl⟩
        · rw [setCells_size]; exact Nat.le_refl _
        · intro q hq hnf
          refine setCells_heap _ _ _ _ _ (fun eq => hnf ⟨i, b, s, m, ?_, hb, hro, ?_⟩)
          · show H.floor ≤ i; omega
          · rw [eq]; exact e
        · rintro q ⟨j, c, t, n, hj, hc, hcr, ej⟩
          rw [get_put] at hc
          split at hc
          · rename_i eji; subst eji; rw [hb] at hc; simp at hc; subst hc
            exact .inl ⟨_, b, t, n, hj, hb, hro, ej⟩
          · exact .inl ⟨j, c, t, n, hj, hc, hcr, ej⟩
    · simp at hs
  · simp at hs

theorem get_del {H : AH} {i : Nat} (j : Nat) : (H.kill i).get j = if j = i then none else H.get j := lk_del _ _ _

theorem get_turn {H : AH} {i ty s0 cs} (j : Nat) : (H.turn i ty s0 cs).get j = if j = H.next then some ⟨cs, false, ty, false, s0⟩ else if j = i then none else H.get j := by
  by_cases h : j = H.next
  · subst h; simp [AH.turn, AH.get, lk]
  · have : ¬ H.next = j := fun e => h e.symm
    simp only [AH.turn, AH.get, lk, this, h, if_false]
    exact lk_del _ _ _

/-- Forgetting blocks. -/
theorem Rel.restrict {B φ H w} (h : Rel B φ H w) {H' : AH} (hsub : ∀ i b, H'.get i = some b → H.get i = some b) (hn : H.next ≤ H'.next) (hf : H'.floor ≤ H'.next) (hff : H.floor ≤ H'.floor) : Rel B φ H' w where
  know := h.know
  hB := h.hB
  live := fun i b hb => Nat.lt_of_lt_of_le (h.live i b (hsub i b hb)) hn
  fl := hf
  blk := fun i b hb => h.blk i b (hsub i b hb)
  inj := fun i j b c p s m q t n hi hj h1 h2 h3 h4 h5 h6 => h.inj i j b c p s m q t n (hsub i b hi) (hsub j c hj) h1 h2 h3 h4 h5 (by omega)

/-- A block goes, and a world that has turned in its block of memory alone. -/
theorem Step.kill {B φ H w} (h : Rel B φ H w) {i : Nat} {b : Blk} (hb : H.get i = some b) (hro : b.ro = false) (hfl : H.floor ≤ i) {p s m} (e : φ i = some (p, s, m)) {w' : World}
    (hsz : w'.heap.size = w.heap.size) (hheap : ∀ q, q ≠ p → w'.heap[q]? = w.heap[q]?) (hos : w'.os = w.os) (htp : w'.tape = w.tape) (hou : w'.output = w.output) :
    Step B φ H w φ (H.kill i) w' := by
  have hsub : ∀ j c, (H.kill i).get j = some c → j ≠ i ∧ H.get j = some c := fun j c hj => by
    rw [get_del] at hj
    split at hj
    · simp at hj
    · rename_i ej; exact ⟨ej, hj⟩
  obtain ⟨p', s', m', e', br⟩ := h.blk i b hb
  rw [e] at e'; simp at e'; obtain ⟨rfl, rfl, rfl⟩ := e'
  have hBp := (br.own hro).1
  have hne : ∀ {j c q t n}, H.get j = some c → φ j = some (q, t, n) → j ≠ i → BR B φ w c q t n → q ≠ p := fun {j c q t n} hj ej hji brj => by
    cases hcr : c.ro with
    | true => have := (brj.ro hcr).1; omega
    | false => exact h.inj j i c b q t n p s m hj hb hcr hro ej e hji (.inr (by omega))
  refine ⟨⟨h.know.keep (fun q hq => hheap q (by omega)) (by rw [hsz]; exact h.hB), by rw [hsz]; exact h.hB, fun j c hj => h.live j c (hsub j c hj).2, h.fl, ?_, ?_⟩, fun _ _ => rfl, Nat.le_refl _, rfl, ?_, ?_, hos, htp, hou, by omega, ?_, ?_⟩
  · intro j c hj
    obtain ⟨h1, h2⟩ := hsub j c hj
    obtain ⟨q, t, n, e1, brj⟩ := h.blk j c h2
    exact ⟨q, t, n, e1, brj.keep (Emb.le_refl φ) (hheap q (hne h2 e1 h1 brj))⟩
  · intro j k c d q t n q' t' n' hj hk
    exact h.inj j k c d q t n q' t' n' (hsub j c hj).2 (hsub k d hk).2
  · intro j hj; rw [get_del, if_neg (by omega)]
  · intro j c _ hj; exact ⟨c, (hsub j c hj).2, rfl⟩
  · intro q hq hnf
    exact hheap q fun eq => hnf ⟨i, b, s, m, hfl, hb, hro, by rw [eq]; exact e⟩
  · rintro q ⟨j, c, t, n, hj, hc, hcr, ej⟩
    exact .inl ⟨j, c, t, n, hj, (hsub j c hc).2, hcr, ej⟩

/-- An append in place: the new name stands for the old block of memory from cell o on. -/
theorem Step.turnIn {B φ H w} (h : Rel B φ H w) {i o : Nat} {b : Blk} (hb : H.get i = some b) (hro : b.ro = false) (hfl : H.floor ≤ i) (hf : φ H.next = none) {p s r} (e : φ i = some (p, s, some r))
    (old new : List AV) (ds : List Value) (hold : old = (b.cells.drop o).take old.length) (hlen : o + old.length ≤ b.cells.length) (hv : VRs φ new ds) (hsol : new.all solid = true) (hroom : s + o + old.length + new.length ≤ r) :
    (∀ P : Program, (storeCells ⟨p, s + o + old.length, none⟩ ds).run P w = .ok () (w.setCells p (s + o + old.length) ds)) ∧
    Step B φ H w (φ.upd H.next (p, s + o, some r)) (H.turn i b.ty (b.s0 && o == 0) (old ++ new)) (w.setCells p (s + o + old.length) ds) := by
  have hle := Emb.le_upd (p, s + o, some r) hf
  obtain ⟨p', s', m', e', br⟩ := h.blk i b hb
  rw [e] at e'; simp at e'; obtain ⟨rfl, rfl, rfl⟩ := e'
  obtain ⟨hBp, r', hm, hsh, hsr, hwh, hs0, hfz⟩ := br.own hro
  simp at hm; subst hm
  have hl := hv.length
  have hcellAll : ∀ j, j < r → (w.cell? ⟨p, j, none⟩).isSome = true := fun j hj => by
    unfold World.shape? at hsh
    split at hsh
    · rename_i c elem fz hheap
      simp at hsh
      have : j < c.size := by omega
      simp [World.cell?, hheap, this]
    · simp at hsh
  have hsolid : ∀ v ∈ ds, v.oneCell' = true := fun v hv' => by
    obtain ⟨j, hj, rfl⟩ := List.getElem_of_mem hv'
    have hj' : j < new.length := by omega
    obtain ⟨u, e', hu⟩ := hv.get (i := j) (a := new[j]) (by simp [hj'])
    have : u = ds[j] := by simpa [hj] using e'.symm
    subst this
    exact solid_ok hu (List.all_eq_true.1 hsol _ (List.getElem_mem hj'))
  have hrest := setCells_rest p ds (s + o + old.length) w
  have hlt : p < w.heap.size := shape_lt hsh
  have ne : ∀ {j c}, H.get j = some c → j ≠ H.next := fun hb e => by have := h.live _ _ hb; omega
  have hne : ∀ {j c q t n}, H.get j = some c → φ j = some (q, t, n) → j ≠ i → BR B φ w c q t n → q ≠ p := fun {j c q t n} hj ej hji brj => by
    cases hcr : c.ro with
    | true => have := (brj.ro hcr).1; omega
    | false => exact h.inj j i c b q t n p s _ hj hb hcr hro ej e hji (.inr hfl)
  refine ⟨fun P => ?_, ⟨⟨h.know.keep (fun q hq => setCells_heap _ _ _ _ _ (by omega)) (by rw [setCells_size]; exact h.hB), ?_, ?_, ?_, ?_, ?_⟩, ?_, ?_, rfl, ?_, ?_, hrest.1, hrest.2.1, hrest.2.2, ?_, ?_, ?_⟩⟩
  · have := run_storeCells_cells (P := P) p (s + o + old.length) ds 0 w (fun j hj => hcellAll _ (by omega)) (fun j hj => hfz _ (by omega) (by omega)) hsolid
    simpa using this
  · rw [setCells_size]; exact h.hB
  · intro j c hj
    rw [get_turn] at hj
    show j < H.next + 1
    split at hj
    · omega
    · split at hj
      · simp at hj
      · have := h.live j c hj; omega
  · have := h.fl; show H.floor ≤ H.next + 1; omega
  · intro j c hj
    rw [get_turn] at hj
    split at hj
    · rename_i ej
      subst ej
      simp at hj
      subst hj
      refine ⟨p, s + o, some r, Emb.upd_same _ _ _, fun x => by simp at x, fun _ => ⟨hBp, r, rfl, by rw [setCells_shape]; exact hsh, by simp; omega, fun x => by simp at x, fun x => by simp at x; have := hs0 x.1; omega, fun j a b => by rw [World.frozen?_setCells]; exact hfz j (by omega) b⟩, fun j v hj => ?_⟩
      by_cases hin : j < old.length
      · rw [List.getElem?_append_left hin] at hj
        have h2 : b.cells[o + j]? = some v := by
          rw [hold] at hj
          rw [List.getElem?_take_of_lt hin, List.getElem?_drop] at hj
          exact hj
        obtain ⟨v', e', hv'⟩ := br.cell _ v h2
        refine ⟨v', ?_, hv'.mono hle⟩
        rw [World.cell?_setCells_out p ds _ w _ (fun _ _ => by simp; omega), show s + o + j = s + (o + j) by omega]
        exact e'
      · rw [List.getElem?_append_right (by omega)] at hj
        obtain ⟨v', e', hv'⟩ := hv.get hj
        have hk : j - old.length < ds.length := by
          rcases Nat.lt_or_ge (j - old.length) ds.length with h' | h'
          · exact h'
          · rw [List.getElem?_eq_none h'] at e'; simp at e'
        refine ⟨v', ?_, hv'.mono hle⟩
        have := World.cell?_setCells_in p ds (s + o + old.length) w (fun j hj => hcellAll _ (by omega)) (j - old.length) hk
        rw [show s + o + j = s + o + old.length + (j - old.length) by omega, this]
        rw [List.getElem?_eq_getElem hk] at e'
        exact e'
    · split at hj
      · simp at hj
      · rename_i ej eji
        obtain ⟨q, t, n, e', brj⟩ := h.blk j c hj
        exact ⟨q, t, n, by rw [Emb.upd_other _ _ _ ej]; exact e', brj.keep hle (setCells_heap _ _ _ _ _ (hne hj e' eji brj))⟩
  · intro j k c d q t n q' t' n' hj hk hc hd e1 e2 hjk hfl2
    rw [get_turn] at hj hk
    split at hj
    · rename_i ej
      subst ej
      rw [if_neg (Ne.symm hjk)] at hk
      split at hk
      · simp at hk
      · rename_i eki
        rw [Emb.upd_same] at e1
        rw [Emb.upd_other _ _ _ (ne hk)] at e2
        obtain ⟨q2, t2, n2, e3, brk⟩ := h.blk k d hk
        rw [e2] at e3; simp at e3; obtain ⟨rfl, rfl, rfl⟩ := e3
        have := hne hk e2 eki brk
        simp at e1
        omega
    · split at hj
      · simp at hj
      · rename_i ej eji
        split at hk
        · rename_i ek
          subst ek
          rw [Emb.upd_same] at e2
          rw [Emb.upd_other _ _ _ (ne hj)] at e1
          obtain ⟨q2, t2, n2, e3, brk⟩ := h.blk j c hj
          rw [e1] at e3; simp at e3; obtain ⟨rfl, rfl, rfl⟩ := e3
          have := hne hj e1 eji brk
          simp at e2
          omega
        · split at hk
          · simp at hk
          · rw [Emb.upd_other _ _ _ (ne hj)] at e1
            rw [Emb.upd_other _ _ _ (ne hk)] at e2
            exact h.inj j k c d q t n q' t' n' hj hk hc hd e1 e2 hjk hfl2
  · intro j hj
    refine Emb.upd_other _ _ _ ?_
    have : (H.turn i b.ty (b.s0 && o == 0) (old ++ new)).next = H.next + 1 := rfl
    omega
  · show H.next ≤ H.next + 1; omega
  · intro j hj
    have := h.fl
    rw [get_turn, if_neg (by omega), if_neg (by omega)]
  · intro j c hj hc
    rw [get_turn, if_neg (by omega)] at hc
    split at hc
    · simp at hc
    · exact ⟨c, hc, rfl⟩
  · rw [setCells_size]; exact Nat.le_refl _
  · intro q hq hnf
    exact setCells_heap _ _ _ _ _ fun eq => hnf ⟨i, b, s, _, hfl, hb, hro, by rw [eq]; exact e⟩
  · rintro q ⟨j, c, t, n, hj, hc, hcr, ej⟩
    rw [get_turn] at hc
    split at hc
    · rename_i ejn
      subst ejn
      rw [Emb.upd_same] at ej
      simp at ej
      obtain ⟨rfl, rfl, rfl⟩ := ej
      exact .inl ⟨i, b, s, _, hfl, hb, hro, e⟩
    · split at hc
      · simp at hc
      · rw [Emb.upd_other _ _ _ (ne hc)] at ej
        exact .inl ⟨j, c, t, n, hj, hc, hcr, ej⟩

/-- An append that makes a new row: the old name goes as well. -/
theorem Step.turnNew {B φ H w} (h : Rel B φ H w) {i : Nat} (hfl : H.floor ≤ i) (ty : TypeId) (cs : List AV) (ds : Array Value) (s0 : Bool) (hf : φ H.next = none)
    (hc : ∀ (j : Nat) (v : AV), cs[j]? = some v → ∃ v', ds[j]? = some v' ∧ VR φ v v') (hl : cs.length ≤ ds.size) :
    Step B φ H w (φ.upd H.next (w.heap.size, 0, some ds.size)) (H.turn i ty s0 cs) (w.alloc (.cells ds ty)) := by
  have hp := Step.push h ty false cs ds hf hc hl (fun e => by cases e)
  have hsub : ∀ j c, (H.turn i ty s0 cs).get j = some c → ∃ c', (H.push ty false cs).get j = some c' ∧ c'.ro = c.ro ∧ c'.cells = c.cells ∧ c'.ty = c.ty ∧ c'.wh = c.wh ∧ (c'.s0 = c.s0 ∨ c'.s0 = true) := fun j c hj => by
    rw [get_turn] at hj
    rw [get_push]
    split at hj
    · rename_i ej; rw [if_pos ej]; simp at hj; subst hj; exact ⟨_, rfl, rfl, rfl, rfl, rfl, .inr rfl⟩
    · rename_i ej
      rw [if_neg ej]
      split at hj
      · simp at hj
      · exact ⟨c, hj, rfl, rfl, rfl, rfl, .inl rfl⟩
  have hbr : ∀ {c' c : Blk} {p s m}, BR B (φ.upd H.next (w.heap.size, 0, some ds.size)) (w.alloc (.cells ds ty)) c' p s m → c'.ro = c.ro → c'.cells = c.cells → c'.ty = c.ty → c'.wh = c.wh → (c'.s0 = c.s0 ∨ c'.s0 = true) → BR B (φ.upd H.next (w.heap.size, 0, some ds.size)) (w.alloc (.cells ds ty)) c p s m := by
    intro c' c p s m br e1 e2 e3 e4 e5
    refine ⟨fun x => br.ro (e1.trans x), fun x => ?_, fun j v hj => br.cell j v (by rw [e2]; exact hj)⟩
    obtain ⟨h1, r, h2, h3, h4, h5, h7, h6⟩ := br.own (e1.trans x)
    refine ⟨h1, r, h2, by rw [← e3]; exact h3, by rw [← e2]; exact h4, fun y => by rw [← e2]; exact h5 (e4.trans y), fun y => ?_, h6⟩
    rcases e5 with e5 | e5
    · exact h7 (e5.trans y)
    · exact h7 e5
  refine ⟨⟨hp.rel.know, hp.rel.hB, ?_, hp.rel.fl, ?_, ?_⟩, hp.emb, hp.nxt, rfl, ?_, ?_, rfl, rfl, rfl, hp.size, hp.frame, ?_⟩
  · intro j c hj
    obtain ⟨c', h1, _⟩ := hsub j c hj
    exact hp.rel.live j c' h1
  · intro j c hj
    obtain ⟨c', h1, h2, h3, h4, h5, h6⟩ := hsub j c hj
    obtain ⟨p, s, m, e, br⟩ := hp.rel.blk j c' h1
    exact ⟨p, s, m, e, hbr br h2 h3 h4 h5 h6⟩
  · intro j k c d p s m q t n hj hk hc hd
    obtain ⟨c', h1, h2, _⟩ := hsub j c hj
    obtain ⟨d', h3, h4, _⟩ := hsub k d hk
    exact hp.rel.inj j k c' d' p s m q t n h1 h3 (h2.trans hc) (h4.trans hd)
  · intro j hj
    have := h.fl
    rw [get_turn, if_neg (by omega), if_neg (by omega)]
  · intro j c hj hc'
    obtain ⟨c', h1, h2, _⟩ := hsub j c hc'
    obtain ⟨d, h3, h4⟩ := hp.sub j c' hj h1
    exact ⟨d, h3, h4.trans h2⟩
  · rintro q ⟨j, c, t, n, hj, hc', hcr, ej⟩
    obtain ⟨c', h1, h2, _⟩ := hsub j c hc'
    exact hp.foot q ⟨j, c', t, n, hj, h1, h2.trans hcr, ej⟩

end Go.Am
