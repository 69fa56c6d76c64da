/-
Each operation of the model does what the abstract machine's does: loads, stores, new blocks, appends and the rest. Conditions: the heap stands to the world, the temporaries to the values.
-/
import Derived.Test.YtjpppajbhpbkiaaDoorAm7
set_option linter.unusedSimpArgs false
set_option linter.unusedVariables false
namespace Go.Am
open Go.RowKit

def GlobR (P : Program) (φ : Emb) : Prop := ∀ g, g < P.globals.size → φ g = some (g, 0, none)
def EnvR (φ : Emb) (e : Env) (t : Array Value) : Prop := ∀ n, VR φ (e.at n) (t.getD n Go.undef)

theorem GlobR.mono {P φ ψ} (h : GlobR P φ) (hl : φ.le ψ) : GlobR P ψ := fun g hg => hl _ _ (h g hg)
theorem EnvR.mono {φ ψ e t} (h : EnvR φ e t) (hl : φ.le ψ) : EnvR ψ e t := fun n => (h n).mono hl

def CallOk (P : Program) (B : Base) (call : Call) : Prop :=
  ∀ (f : FuncId) (args : List AV) (H : AH) (out : Out) (H' : AH) (φ : Emb) (vs : List Value) (w : World), call f args H = some (out, H') → Rel B φ H w → VRs φ args vs → GlobR P φ → Free φ H.next H'.next →
    Does P (Post B φ H w out H') ((callFunc f vs.toArray).run P w)

section
variable {P : Program} {B : Base} {φ : Emb} {H H' : AH} {w : World} {a : Act} {e : Env} {o : Oper} {call : Call} {out : Out}

theorem ofOp_ok (hg : GlobR P φ) (he : EnvR φ e a.tmps) {x : Operand} {y : Arg} (h : ofOp P x = some y) : VR φ (y.val e) (a.eval x) := by
  cases x with
  | tmp t => simp [ofOp] at h; subst h; exact he t
  | const v => simp only [ofOp, Option.map_eq_some_iff] at h; obtain ⟨c, hc, rfl⟩ := h; exact ofV_ok hc
  | global g =>
    simp only [ofOp] at h
    split at h <;> simp at h
    subst h
    rename_i hlt
    have := VR.ptr (φ := φ) (o := 0) (hg g hlt)
    exact this
  | func f => simp [ofOp] at h; subst h; exact VRs.func (ds := #[]) f .nil .nil

theorem ofOps_ok (hg : GlobR P φ) (he : EnvR φ e a.tmps) : ∀ {xs : List Operand} {ys : List Arg}, ofOps P xs = some ys → VRs φ (ys.map (·.val e)) (xs.map a.eval)
  | [], ys, h => by simp [ofOps] at h; subst h; exact .nil
  | x :: xs, ys, h => by
    simp only [ofOps] at h
    split at h
    · rename_i y ys' h1 h2
      simp at h; subst h
      exact .cons (ofOp_ok hg he h1) (ofOps_ok hg he h2)
    · simp at h

theorem optOp_ok (hg : GlobR P φ) (he : EnvR φ e a.tmps) {x : Option Operand} {y : Option Arg} (h : optOp P x = some y) : VO φ (y.map (·.val e)) (x.map a.eval) := by
  cases x with
  | none => simp [optOp] at h; subst h; exact .none
  | some x => simp only [optOp, Option.map_eq_some_iff] at h; obtain ⟨z, hz, rfl⟩ := h; exact .some (ofOp_ok hg he hz)

theorem zOf_ok {t : TypeId} {z : List AV} (h : zOf P t = some z) : ∃ v : Value, (∀ w, (zeroValue t).run P w = .ok v w) ∧ VRs φ z v.cells.toList := by
  unfold zOf at h
  split at h
  · rename_i v hv
    cases hi : P.info? t with
    | none => simp [hi] at hv
    | some i =>
      simp [hi] at hv
      exact ⟨v, fun w => by simp [zeroValue, typeInfo, hi, hv], ofVs_ok h⟩
  · simp at h

/-- A new variable. -/
theorem new_ok (hr : Rel B φ H w) (hf : φ H.next = none) (ty : TypeId) {cs : List AV} {v : Value} (hv : VRs φ cs v.cells.toList) :
    ∃ ψ, (newVar ty v).run P w = .ok ⟨w.heap.size, 0, none⟩ (w.alloc (.cells v.cells ty)) ∧ Step B φ H w ψ (H.push ty true cs) (w.alloc (.cells v.cells ty)) ∧ ψ H.next = some (w.heap.size, 0, some v.cells.size) := by
  have hl := hv.length
  simp at hl
  refine ⟨_, by simp [newVar, newRow], Step.push hr ty true cs v.cells hf (fun j u hj => ?_) (by omega) (fun _ => hl.symm), Emb.upd_same _ _ _⟩
  obtain ⟨v', h1, h2⟩ := hv.get hj
  exact ⟨v', by simpa using h1, h2⟩

theorem op_alloc {t : TypeId} {z : List AV} (ho : o.op = .alloc t) (hz : zOf P t = some z) (hr : Rel B φ H w) (hf : φ H.next = none) :
    Does P (Post B φ H w (.ok (.ptr H.next 0)) (H.push t true z)) ((execOp a.eval o).run P w) := by
  obtain ⟨v, h1, h2⟩ := zOf_ok (φ := φ) hz
  obtain ⟨ψ, h3, h4, h5⟩ := new_ok (P := P) hr hf t h2
  refine does_val (s := Instr.alloc t true (.tuple #[])) (by simp only [execOp, ho]) (v' := .pointer (some ⟨w.heap.size, 0, none⟩)) ?_ h4 ?_
  · simp [Instr.alloc, h1, h3]
  · exact VR.ptr (o := 0) h5

theorem op_box {t : TypeId} {x : Operand} {y : Arg} {cs : List AV} (ho : o.op = .box t x) (hx : VR φ (y.val e) (a.eval x)) (hc : (y.val e).cells? = some cs) (hr : Rel B φ H w) (hf : φ H.next = none) :
    Does P (Post B φ H w (.ok (.ptr H.next 0)) (H.push t true cs)) ((execOp a.eval o).run P w) := by
  obtain ⟨ψ, h3, h4, h5⟩ := new_ok (P := P) hr hf t (cells_ok hx hc)
  refine does_val (s := Instr.box t (a.eval x)) (by simp only [execOp, ho]) (v' := .pointer (some ⟨w.heap.size, 0, none⟩)) ?_ h4 ?_
  · simp [Instr.box, h3]
  · exact VR.ptr (o := 0) h5

theorem op_ld1 {t : TypeId} {x : Operand} {i k : Nat} {b : Blk} {v : AV} (ho : o.op = .load t x) (ht : partN P t = some none) (hx : VR φ (.ptr i k) (a.eval x)) (hb : H.get i = some b) (hv : b.cells[k]? = some v) (hr : Rel B φ H w) :
    Does P (Post B φ H w (.ok v) H) ((execOp a.eval o).run P w) := by
  obtain ⟨p, s, m, e1, e2⟩ := hx.ptr_inv
  obtain ⟨p', s', m', e', br⟩ := hr.blk i b hb
  rw [e1] at e'; simp at e'; obtain ⟨rfl, rfl, rfl⟩ := e'
  obtain ⟨v', h1, h2⟩ := br.cell k v hv
  refine does_same (s := Instr.loadAt t (a.eval x)) hr (by simp only [execOp, ho]) (v' := v') ?_ h2
  rw [e2]
  simp [Instr.loadAt, Instr.sureAddr, run_loadVar1 ht h1]

theorem op_ldn {t : TypeId} {n : Nat} {x : Operand} {i k : Nat} {cs : List AV} (ho : o.op = .load t x) (ht : partN P t = some (some n)) (hx : VR φ (.ptr i k) (a.eval x)) (hc : H.cellsAt i k n = some cs) (hr : Rel B φ H w) :
    Does P (Post B φ H w (.ok (.agg cs)) H) ((execOp a.eval o).run P w) := by
  obtain ⟨p, s, m, e1, e2⟩ := hx.ptr_inv
  obtain ⟨hl, ds, h1, h2⟩ := cellsAt_ok hr hc e1
  have hdl := h1.length
  refine does_same (s := Instr.loadAt t (a.eval x)) hr (by simp only [execOp, ho]) (v' := .agg ds.toArray) ?_ (VR.agg (by simpa using h1))
  rw [e2]
  simp [Instr.loadAt, Instr.sureAddr, run_loadVarn (P := P) (t := t) (w := w) (p := p) (q := s + k) ds (by rw [ht]; simp; omega) h2]

theorem op_st {t : TypeId} {n : Nat} {x y : Operand} {i k : Nat} {u : AV} {cs : List AV} (ho : o.op = .store t x y) (ht : szOf P t = some n) (hx : VR φ (.ptr i k) (a.eval x)) (hy : VR φ u (a.eval y)) (hc : u.cells? = some cs) (hl : cs.length = n)
    (hs : H.store i k cs = some H') (hr : Rel B φ H w) : Does P (Post B φ H w (.ok (.tup [])) H') ((execOp a.eval o).run P w) := by
  obtain ⟨p, s, m, e1, e2⟩ := hx.ptr_inv
  have hv := cells_ok hy hc
  obtain ⟨p', s', m', e', h1, h2⟩ := Step.store hr hs hv
  rw [e1] at e'; simp at e'; obtain ⟨rfl, rfl, rfl⟩ := e'
  have hlen := hv.length
  simp at hlen
  have : (Instr.storeAt t (a.eval x) (a.eval y)).run P w = .ok () (w.setCells p (s + k) (a.eval y).cells.toList) := by
    rw [e2]
    simp [Instr.storeAt, Instr.sureAddr, storeVar, run_sizeOf' ht, h1 P, show (a.eval y).cells.size = n by omega]
  simp only [execOp, ho]
  simp [this, Does]
  exact Post.ok h2 VR.tupn

theorem op_bld_st {t : TypeId} {z cs : List AV} {fs : Array Field} {parts : Array (Nat × Operand)} {l : List (Nat × Nat × Arg)} (ho : o.op = .build t parts) (hz : zOf P t = some z) (hu : P.underlying t = some (.struct fs)) (hsz : fszs P fs.toList = true)
    (hp : partsOf P (fplace P fs) parts.toList = some l) (ha : afill z (l.map fun (o, n, x) => (o, n, x.val e)) = some cs) (hg : GlobR P φ) (he : EnvR φ e a.tmps) (hr : Rel B φ H w) :
    Does P (Post B φ H w (.ok (.agg cs)) H) ((execOp a.eval o).run P w) := by
  obtain ⟨zv, h1, h2⟩ := zOf_ok (φ := φ) hz
  have hmap : ∀ (l : List Field) (w : World), fszs P l = true → (l.mapM (fun f => Prod.mk f.offset <$> sizeOf f.type : Field → Sem (Nat × Nat))).run P w = .ok (l.map fun f => (f.offset, (szOf P f.type).getD 0)) w := by
    intro l
    induction l with
    | nil => intro w _; simp
    | cons f l ih =>
      intro w hl
      simp only [fszs, Bool.and_eq_true] at hl
      obtain ⟨n, hn⟩ := Option.isSome_iff_exists.1 hl.1
      simp only [List.mapM_cons, Sem.run_bind, Sem.run_map, run_sizeOf' hn, Result.andThen_ok, ih w hl.2, Sem.run_pure, List.map_cons, hn, Option.getD_some]
  have hplaces : (fs.mapM (fun f => Prod.mk f.offset <$> sizeOf f.type : Field → Sem (Nat × Nat))).run P w = .ok (fs.map fun f => (f.offset, (szOf P f.type).getD 0)) w := by
    rw [Array.mapM_eq_mapM_toList]
    have := hmap fs.toList w hsz
    simp only [Sem.run_map, this, Result.andThen_ok]
    congr 1
    apply Array.ext'
    simp
  have hplace : ∀ i, fplace P fs i = (fs.map fun f => (f.offset, (szOf P f.type).getD 0))[i]? := by
    intro i
    unfold fplace
    rw [Array.getElem?_map]
    cases hi : fs[i]? with
    | none => simp
    | some f =>
      have : (szOf P f.type).isSome = true := by
        have hm : f ∈ fs.toList := by
          have := Array.mem_of_getElem? hi
          simpa using this
        clear hi hplaces hp
        revert hm hsz
        induction fs.toList with
        | nil => simp
        | cons g l ih =>
          intro h1 h2
          simp only [fszs, Bool.and_eq_true] at h1
          rcases List.mem_cons.1 h2 with rfl | h2
          · exact h1.1
          · exact ih h1.2 h2
      obtain ⟨n, hn⟩ := Option.isSome_iff_exists.1 this
      simp [hn]
  rw [show fplace P fs = fun i => (fs.map fun f => (f.offset, (szOf P f.type).getD 0))[i]? from funext hplace] at hp
  obtain ⟨ds, h3, h4, _⟩ := fill_ok (ρ := a.eval) (fun x y h => ofOp_ok hg he h) hp ha h2
  refine does_same (s := Instr.build t (parts.map fun (i, x) => (i, a.eval x))) hr (by simp only [execOp, ho]) (v' := .agg ds) ?_ (VR.agg h4)
  have hplaces' : (fs.mapM (fun f => do pure (f.offset, ← sizeOf f.type) : Field → Sem (Nat × Nat))).run P w = .ok (fs.map fun f => (f.offset, (szOf P f.type).getD 0)) w := by simpa using hplaces
  have hm : (parts.map fun (i, x) => (i, a.eval x)).toList = parts.toList.map fun x => (x.1, a.eval x.2) := by simp
  simp only [Instr.build, Sem.run_bind, h1, Result.andThen_ok, run_underlying hu, hplaces', hm, h3, Sem.run_pure]

theorem op_bld_arr {t el : TypeId} {n k : Nat} {z cs : List AV} {parts : Array (Nat × Operand)} {l : List (Nat × Nat × Arg)} (ho : o.op = .build t parts) (hz : zOf P t = some z) (hu : P.underlying t = some (.array k el)) (hsz : szOf P el = some n)
    (hp : partsOf P (fun i => some (i * n, n)) parts.toList = some l) (ha : afill z (l.map fun (o, n, x) => (o, n, x.val e)) = some cs) (hg : GlobR P φ) (he : EnvR φ e a.tmps) (hr : Rel B φ H w) :
    Does P (Post B φ H w (.ok (.agg cs)) H) ((execOp a.eval o).run P w) := by
  obtain ⟨zv, h1, h2⟩ := zOf_ok (φ := φ) hz
  obtain ⟨ds, h3, h4, _⟩ := fill_ok (ρ := a.eval) (fun x y h => ofOp_ok hg he h) hp ha h2
  refine does_same (s := Instr.build t (parts.map fun (i, x) => (i, a.eval x))) hr (by simp only [execOp, ho]) (v' := .agg ds) ?_ (VR.agg h4)
  simp [Instr.build, h1, run_underlying hu, run_sizeOf' hsz, h3]

theorem rep_ok {z : List AV} {v : Array Value} (h : VRs φ z v.toList) (k : Nat) : VRs φ (rep k z) ((Array.range (k * v.size)).map (v[· % v.size]!)).toList := by
  have hl := h.length
  simp at hl
  refine VRs.of_get (by simp [rep, hl]) fun i x hi => ?_
  have hlen : i < k * z.length := by
    rcases Nat.lt_or_ge i (k * z.length) with h' | h'
    · exact h'
    · rw [List.getElem?_eq_none (by simp [rep, h'])] at hi; simp at hi
  have hz : 0 < z.length := by
    rcases Nat.eq_zero_or_pos z.length with h' | h'
    · rw [h'] at hlen; omega
    · exact h'
  have hmod : i % z.length < z.length := Nat.mod_lt _ hz
  have hget : (rep k z)[i]? = z[i % z.length]? := by
    clear hi
    unfold rep
    induction k generalizing i with
    | zero => omega
    | succ k ih =>
      rw [List.replicate_succ, List.flatten_cons]
      by_cases hlt : i < z.length
      · rw [List.getElem?_append_left hlt, Nat.mod_eq_of_lt hlt]
      · rw [List.getElem?_append_right (by omega)]
        have h1 : i - z.length < k * z.length := by rw [Nat.succ_mul] at hlen; omega
        have := ih (i - z.length) h1 (Nat.mod_lt _ hz)
        rw [this, ← Nat.mod_eq_sub_mod (by omega)]
  rw [hget] at hi
  obtain ⟨u, h1, h2⟩ := h.get hi
  refine ⟨u, ?_, h2⟩
  have hu : v[i % v.size]? = some u := by rw [← hl]; simpa using h1
  rw [Array.getElem?_toList, Array.getElem?_map, Array.getElem?_range]
  rw [if_pos (by rw [← hl]; exact hlen)]
  simp [getElem!_def, hu]

theorem op_bsl {t el : TypeId} {n len : Nat} {z cs : List AV} {parts : Array (Nat × Operand)} {l : List (Nat × Nat × Arg)} (ho : o.op = .buildSlice t len parts) (hu : P.underlying t = some (.slice el)) (hsz : szOf P el = some n) (hz : zOf P el = some z)
    (hm : len * n ≤ 16777216) (hzl : z.length = n) (hp : partsOf P (fun i => some (i * n, n)) parts.toList = some l) (ha : afill (rep len z) (l.map fun (o, n, x) => (o, n, x.val e)) = some cs) (hg : GlobR P φ) (he : EnvR φ e a.tmps) (hr : Rel B φ H w) (hf : φ H.next = none) :
    Does P (Post B φ H w (.ok (.sl H.next 0 n len (some len))) (H.push el true cs)) ((execOp a.eval o).run P w) := by
  obtain ⟨zv, h1, h2⟩ := zOf_ok (φ := φ) hz
  have hzs : zv.cells.size = n := by have := h2.length; simp at this; omega
  have hrep := rep_ok h2 len
  rw [hzs] at hrep
  obtain ⟨ds, h3, h4, h5⟩ := fill_ok (ρ := a.eval) (fun x y h => ofOp_ok hg he h) hp ha hrep
  have hcl := h4.length
  simp at hcl h5
  have hpush := Step.push hr el true cs ds hf (fun j u hj => by
    obtain ⟨v', q1, q2⟩ := h4.get hj
    exact ⟨v', by simpa using q1, q2⟩) (by omega) (fun _ => hcl.symm)
  refine does_val (s := Instr.buildSlice t len (parts.map fun (i, x) => (i, a.eval x))) (by simp only [execOp, ho]) (v' := .slice (some ⟨w.heap.size, 0, none⟩) len len) ?_ hpush ?_
  · have hm' : ¬ len * n > 2 ^ 24 := by omega
    have hml : (parts.map fun (i, x) => (i, a.eval x)).toList = parts.toList.map fun x => (x.1, a.eval x.2) := by simp
    by_cases h0 : len * n = 0
    · have hr0 : (Array.range (len * n)).map (zv.cells[· % n]!) = #[] := by simp [h0]
      have hr1 : ∀ zz : Array Value, (Array.range (len * n)).map (zz[· % zz.size]!) = #[] := by simp [h0]
      rw [hr0] at h3
      simp only [Instr.buildSlice, Sem.run_bind, run_underlying hu, Result.andThen_ok, run_sizeOf' hsz, hm', if_false, if_pos h0, Sem.run_pure, hr1, hml, h3, newRow]
      rfl
    · simp only [Instr.buildSlice, Sem.run_bind, run_underlying hu, Result.andThen_ok, run_sizeOf' hsz, hm', if_false, if_neg h0, Sem.run_pure, h1, hzs, hml, h3, newRow]
      rfl
  · have := VR.sl (φ := φ.upd H.next (w.heap.size, 0, some ds.size)) (i := H.next) (o := 0) (z := n) (n := len) (cc := len) (c := some len) (Emb.upd_same _ _ _) (fun r hr => by simp at hr; omega) (Nat.le_refl _) (fun d hd => by simpa using hd)
    exact this

end
end Go.Am
