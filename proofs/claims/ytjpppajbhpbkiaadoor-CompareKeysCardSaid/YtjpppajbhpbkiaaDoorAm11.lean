/-
The rest of the operations: copies, new slices, strings and bytes, interfaces, calls. Conditions: the heap stands to the world, the temporaries to the values.
-/
import Derived.Test.YtjpppajbhpbkiaaDoorAm10
set_option linter.unusedSimpArgs false
set_option linter.unusedVariables false
namespace Go.Am
open Go.RowKit

section
variable {P : Program} {B : Base} {φ : Emb} {H H' : AH} {w : World} {a : Act} {e : Env} {o : Oper} {call : Call} {out : Out}

theorem op_cpy {c : Go.Call} {t u el : TypeId} {z : Nat} {x y : Operand} {r : AV} {i off n m : Nat} {cp : Option Nat} {cs : List AV} (ho : o.op = .call c) (hc : c.callee = .builtin .copy) (hts : c.argTypes = #[t, u]) (hargs : c.args = #[x, y])
    (hu : P.underlying t = some (.slice el)) (hsz : szOf P el = some z) (hs : VR φ (.sl i off z n cp) (a.eval x)) (hr : VR φ r (a.eval y)) (hl : lenOf r = some m) (hnew : takeFrom H z r = some cs) (hrel : Rel B φ H w)
    (hst : H.store i off (cs.take (min m n * z)) = some H') : Does P (Post B φ H w (.ok (.int .i64 (min m n : Nat))) H') ((execOp a.eval o).run P w) := by
  obtain ⟨hlen, hlm, nds, hnv, _, hfirst⟩ := takeFrom_ok (P := P) hrel hnew hl hr
  have hf2 := hfirst (min m n) (Nat.min_le_left _ _)
  obtain ⟨p, s, q, e1, h1, h2⟩ := Step.store hrel hst (hnv.take (min m n * z))
  obtain ⟨k, hex⟩ := exec_builtin (ρ := a.eval) ho hc
  have hex' : execOp a.eval o = (do pure (.value (← Builtin.copy_ #[t, u] o.type #[a.eval x, a.eval y]))) := by
    rw [hex, hts, hargs, show (#[x, y] : Array Operand).map a.eval = #[a.eval x, a.eval y] by simp]; rfl
  have hs' := run_sizeOf' hsz
  rcases hs.sl_inv with ⟨p', s', m', cc, e2, _, _, _, e5⟩ | ⟨rfl, _, ad, e5⟩
  · rw [e1] at e2; simp at e2; obtain ⟨rfl, rfl, rfl⟩ := e2
    refine does_val hex' (v' := .int .i64 (min m n : Nat)) ?_ h2 (VR.int _ _)
    rw [e5]
    have hmin : Nat.min m n = min m n := rfl
    simp [Builtin.copy_, run_underlying hu, hlm, hs', hmin, hf2, h1 P, goInt]
  · have hz : nds.take (min m 0 * z) = [] := by simp
    rw [hz] at h2 hf2
    refine does_val hex' (v' := .int .i64 (min m 0 : Nat)) ?_ h2 (VR.int _ _)
    rw [e5]
    have hmin : Nat.min m 0 = 0 := by simp [Nat.min_def]
    have hf3 : (Builtin.firstCells z 0 (a.eval y)).run P w = .ok #[] w := by simpa using hf2
    simp [Builtin.copy_, run_underlying hu, hlm, hs', hmin, hf3, goInt, storeCells, World.setCells]

theorem op_cpy_nil {c : Go.Call} {t u el : TypeId} {z : Nat} {x y : Operand} {r : AV} {m : Nat} {cs : List AV} (ho : o.op = .call c) (hc : c.callee = .builtin .copy) (hts : c.argTypes = #[t, u]) (hargs : c.args = #[x, y])
    (hu : P.underlying t = some (.slice el)) (hsz : szOf P el = some z) (hs : VR φ .nils (a.eval x)) (hr : VR φ r (a.eval y)) (hl : lenOf r = some m) (hnew : takeFrom H z r = some cs) (hrel : Rel B φ H w) :
    Does P (Post B φ H w (.ok (.int .i64 0)) H) ((execOp a.eval o).run P w) := by
  obtain ⟨hlen, hlm, nds, hnv, _, hfirst⟩ := takeFrom_ok (P := P) hrel hnew hl hr
  have hf2 := hfirst 0 (Nat.zero_le _)
  obtain ⟨k, hex⟩ := exec_builtin (ρ := a.eval) ho hc
  have hex' : execOp a.eval o = (do pure (.value (← Builtin.copy_ #[t, u] o.type #[a.eval x, a.eval y]))) := by
    rw [hex, hts, hargs, show (#[x, y] : Array Operand).map a.eval = #[a.eval x, a.eval y] by simp]; rfl
  refine does_same hrel hex' (v' := .int .i64 0) ?_ (VR.int _ _)
  have hmin : Nat.min m 0 = 0 := by simp [Nat.min_def]
  have hf3 : (Builtin.firstCells z 0 (a.eval y)).run P w = .ok #[] w := by simpa using hf2
  rw [hs.nils_inv]
  simp [Builtin.copy_, run_underlying hu, hlm, run_sizeOf' hsz, hmin, hf3, goInt]

theorem rep_prefix {z : List AV} {k m : Nat} (h : k ≤ m) {j : Nat} {v : AV} (hj : (rep k z)[j]? = some v) : (rep m z)[j]? = some v := by
  obtain ⟨d, rfl⟩ : ∃ d, m = k + d := ⟨m - k, by omega⟩
  have : rep (k + d) z = rep k z ++ rep d z := by simp [rep, ← List.replicate_append_replicate]
  rw [this]
  have hlt : j < (rep k z).length := by
    rcases Nat.lt_or_ge j (rep k z).length with h' | h'
    · exact h'
    · rw [List.getElem?_eq_none h'] at hj; simp at hj
  rw [List.getElem?_append_left hlt]
  exact hj

theorem op_mks {t el : TypeId} {z bytes : Nat} {zl : List AV} {x y : Operand} {l c : Int} (ho : o.op = .makeSlice t x y) (hu : P.underlying t = some (.slice el)) (hsz : szOf P el = some z) (hby : byOf P el = some bytes) (hzero : zOf P el = some zl) (hzl : zl.length = z)
    (hx : VR φ (.int .i64 l) (a.eval x)) (hy : VR φ (.int .i64 c) (a.eval y)) (hl0 : 0 ≤ l) (hlc : l ≤ c) (hb : c.toNat * bytes ≤ 140737488351232) (hc : c ≤ 140737488351232) (hrel : Rel B φ H w) (hf : φ H.next = none) :
    Does P (Post B φ H w (.ok (.sl H.next 0 z l.toNat (if l = c then some l.toNat else none))) (H.push el false (rep l.toNat zl))) ((execOp a.eval o).run P w) := by
  obtain ⟨i, zv, hi, hiz, hz2⟩ := zOf_info (φ := φ) hzero
  have hzs : zv.cells.size = z := by have := hz2.length; simp at this; omega
  have hs := szOf_info hsz hi
  have hib := byOf_info hby hi
  obtain ⟨l', rfl⟩ : ∃ k : Nat, l = k := ⟨l.toNat, by omega⟩
  obtain ⟨c', rfl⟩ : ∃ k : Nat, c = k := ⟨c.toNat, by omega⟩
  simp only [Int.toNat_natCast] at hb ⊢
  have hw1 : IntKind.i64.wrap (l' : Int) = l' := by simp [IntKind.wrap, IntKind.bits, IntKind.signed]; omega
  have hw2 : IntKind.i64.wrap (c' : Int) = c' := by simp [IntKind.wrap, IntKind.bits, IntKind.signed]; omega
  have hcb : ¬ ((bytes : Int) * (c' : Int) > 2 ^ 48) := by
    have : (bytes : Int) * (c' : Int) = ((c' * bytes : Nat) : Int) := by push_cast; exact Int.mul_comm _ _
    omega
  have hrep := rep_ok hz2 c'
  rw [hzs] at hrep
  have hcl := hrep.length
  have hpush := Step.push hrel el false (rep l' zl) ((Array.range (c' * z)).map (zv.cells[· % z]!)) hf (fun j v hj => by
    obtain ⟨u, q1, q2⟩ := hrep.get (rep_prefix (show l' ≤ c' by omega) hj)
    exact ⟨u, by rw [← Array.getElem?_toList]; exact q1, q2⟩) (by
      have h1 : (rep l' zl).length = l' * z := by simp [rep, hzl]
      have h2 : l' * z ≤ c' * z := Nat.mul_le_mul_right _ (by omega)
      simp [h1, h2]) (fun h => by cases h)
  refine does_val (s := Instr.makeSlice t (a.eval x) (a.eval y)) (by simp only [execOp, ho]) (v' := .slice (some ⟨w.heap.size, 0, none⟩) l' c') ?_ hpush ?_
  · rw [hx.int_inv, hy.int_inv]
    have e1 : ¬ ((l' : Int) > (c' : Int)) := by omega
    have e2 : ¬ ((c' : Int) < 0) := by omega
    have e3 : ¬ ((l' : Int) < 0) := by omega
    have e5 : (decide ((c' : Int) < 0) || decide ((bytes : Int) * (c' : Int) > 2 ^ 48)) = false := by simp only [e2, hcb, decide_false, Bool.or_self]
    have e6 : ((decide ((c' : Int) < 0) || decide ((bytes : Int) * (c' : Int) > 2 ^ 48)) || decide ((l' : Int) < 0) || decide ((l' : Int) > (c' : Int))) = false := by simp only [e1, e2, e3, hcb, decide_false, Bool.or_self]
    by_cases h0 : c' * z = 0
    · have hr0 : (Array.range (c' * z)).map (zv.cells[· % z]!) = #[] := by simp [h0]
      have hr1 : ∀ zz : Array Value, (Array.range (c' * z)).map (zz[· % zz.size]!) = #[] := by simp [h0]
      rw [hr0]
      simp only [Instr.makeSlice, Sem.run_bind, run_underlying hu, Result.andThen_ok, asInt, asIntOf, typeInfo, hi, Sem.run_pure, run_program, hib, hw1, hw2, e6, Bool.false_eq_true, if_false, run_askRoom, Int.toNat_natCast, sizeOf, hs, if_pos h0, hr1, newRow]
      rfl
    · simp only [Instr.makeSlice, Sem.run_bind, run_underlying hu, Result.andThen_ok, asInt, asIntOf, typeInfo, hi, Sem.run_pure, run_program, hib, hw1, hw2, e6, Bool.false_eq_true, if_false, run_askRoom, Int.toNat_natCast, sizeOf, hs, if_neg h0, zeroValue, hiz, hzs, newRow]
      rfl
  · have := VR.sl (φ := φ.upd H.next (w.heap.size, 0, some ((Array.range (c' * z)).map (zv.cells[· % z]!)).size)) (i := H.next) (o := 0) (z := z) (n := l') (cc := c') (c := if (l' : Int) = c' then some l' else none) (Emb.upd_same _ _ _) (fun r hr => by simp at hr; omega) (by omega) (fun d hd => by split at hd <;> simp at hd; omega)
    exact this

theorem op_s2b {s d el : TypeId} {x : Operand} {l : List UInt8} (ho : o.op = .convert s d x) (hs : P.underlying s = some .string) (hd : P.underlying d = some (.slice el)) (he : P.underlying el = some (.int .u8)) (hx : VR φ (.str l) (a.eval x)) (hrel : Rel B φ H w) (hf : φ H.next = none) :
    Does P (Post B φ H w (.ok (.sl H.next 0 1 l.length none)) (H.push el false (ofBytes l))) ((execOp a.eval o).run P w) := by
  have hxv := hx.str_inv
  have hrun := Lib.run_convert_string_bytes (P := P) w s d el ⟨l.toArray⟩ hs hd he
  have hcap : l.length ≤ grownCap w (⟨l.toArray⟩ : ByteArray).size 0 el := by rw [size_str]; show l.length ≤ l.length + _; omega
  have hsz : (Lib.bytesCells w el ⟨l.toArray⟩).size = grownCap w (⟨l.toArray⟩ : ByteArray).size 0 el := by
    simp [Lib.bytesCells, size_str] at hcap ⊢
    omega
  have hpush := Step.pushW hrel el false (ofBytes l) (Lib.bytesCells w el ⟨l.toArray⟩) ((Lib.bytesCells w el ⟨l.toArray⟩).size, (Lib.bytesCells w el ⟨l.toArray⟩).size + 1) hf (fun j v hj => by
      simp only [ofBytes, List.getElem?_map, Option.map_eq_some_iff] at hj
      obtain ⟨b, hb, rfl⟩ := hj
      refine ⟨_, ?_, VR.int _ _⟩
      have hlt : j < l.length := by
        rcases Nat.lt_or_ge j l.length with h' | h'
        · exact h'
        · rw [List.getElem?_eq_none h'] at hb; simp at hb
      rw [Lib.bytesCells, Array.getElem?_append_left (by simpa using hlt)]
      simp [hb]) (by simp [ofBytes, hsz]; omega) (fun h => by cases h) (fun j h1 h2 => by simp at h2; omega)
      (Lib.bytesWorld_at_new w el ⟨l.toArray⟩) (fun p hp => Lib.bytesWorld_at_old w el _ p hp) (Lib.bytesWorld_size w el _) (by simp [Lib.bytesWorld, World.freeze, World.alloc, World.drew, -World.alloc_eq, -World.drew_eq]) (by simp [Lib.bytesWorld, World.freeze, World.alloc, World.drew, -World.alloc_eq, -World.drew_eq]) (by simp [Lib.bytesWorld, World.freeze, World.alloc, World.drew, -World.alloc_eq, -World.drew_eq])
  refine does_val (s := convert s d (a.eval x)) (by simp only [execOp, ho]) (by rw [hxv]; exact hrun) hpush ?_
  rw [size_str]
  rw [size_str] at hsz
  have := VR.sl (φ := φ.upd H.next (w.heap.size, 0, some (Lib.bytesCells w el ⟨l.toArray⟩).size)) (i := H.next) (o := 0) (z := 1) (n := l.length) (cc := grownCap w l.length 0 el) (c := none) (Emb.upd_same _ _ _) (fun r hr => by simp at hr; omega) (by rw [size_str] at hcap; exact hcap) (fun d hd => by cases hd)
  exact this

theorem op_b2s {s d el : TypeId} {x : Operand} {u : AV} {cs : List AV} {l : List UInt8} (ho : o.op = .convert s d x) (hs : P.underlying s = some (.slice el)) (hd : P.underlying d = some .string) (he : P.underlying el = some (.int .u8)) (hx : VR φ u (a.eval x))
    (hu : ∀ t, u ≠ .str t) (hcs : takeFrom H 1 u = some cs) (hl : toBytes cs = some l) (hrel : Rel B φ H w) : Does P (Post B φ H w (.ok (.str l)) H) ((execOp a.eval o).run P w) := by
  refine does_same (s := convert s d (a.eval x)) hrel (by simp only [execOp, ho]) (v' := .string ⟨l.toArray⟩) ?_ (VR.str l)
  have empty : ∀ (ad : Addr) (cc : Nat), (convert s d (.slice (some ad) 0 cc)).run P w = .ok (.string ⟨([] : List UInt8).toArray⟩) w := fun ad cc =>
    run_convert_bytes_back w s d el ad cc [] hs he hd (fun j hj => by simp at hj)
  cases u with
  | nils =>
    simp [takeFrom] at hcs; subst hcs; simp [toBytes] at hl; subst hl
    rw [hx.nils_inv]
    simp [convert, run_underlying hs, run_underlying hd, run_underlying he, Conv.bytesToString]
    rfl
  | esl =>
    simp [takeFrom] at hcs; subst hcs; simp [toBytes] at hl; subst hl
    obtain ⟨ad, cc, e1⟩ := hx.esl_inv
    rw [e1]
    exact empty ad cc
  | sl i off z n c =>
    simp only [takeFrom] at hcs
    split at hcs
    · rename_i hz; subst hz
      rcases hx.sl_inv with ⟨p, q, m, cc, e1, _, _, _, e5⟩ | ⟨rfl, _, ad, e5⟩
      · obtain ⟨hlen, ds, hv, hcell⟩ := cellsAt_ok hrel hcs e1
        obtain ⟨h1, h2⟩ := toBytes_ok hl hv
        have hvl := hv.length
        have hn : n = l.length := by omega
        rw [e5, hn]
        refine run_convert_bytes_back w s d el _ cc l hs he hd (fun j hj => ?_)
        have hj' : j < ds.length := by omega
        obtain ⟨b, hb, hdv⟩ := h2 j ds[j] (by simp [hj'])
        rw [add_eq, hcell j ds[j] (by simp [hj']), hdv]
        rw [List.getElem?_eq_getElem hj] at hb
        simp at hb
        rw [hb]
      · have : cs = [] := by
          unfold AH.cellsAt at hcs
          split at hcs
          · split at hcs <;> simp at hcs; first | exact hcs | exact hcs.symm
          · simp at hcs
        subst this
        simp [toBytes] at hl; subst hl
        rw [e5]
        exact empty ad 0
    · simp at hcs
  | str t => exact absurd rfl (hu t)
  | _ => simp [takeFrom] at hcs

theorem op_tous {s d t : TypeId} {n : Nat} {x : Operand} {i off : Nat} {b : Blk} (ho : o.op = .convert s d x) (hs : P.underlying s = some (.pointer t)) (hd : P.underlying d = some .unsafePointer) (ht : szOf P t = some (n + 1)) (hx : VR φ (.ptr i off) (a.eval x))
    (hb : H.get i = some b) (hlt : off < b.cells.length) (hro : b.ro = false) (hrel : Rel B φ H w) : Does P (Post B φ H w (.ok (.ptr i off)) H) ((execOp a.eval o).run P w) := by
  obtain ⟨p, q, m, e1, e2⟩ := hx.ptr_inv
  obtain ⟨p', s', m', e', br⟩ := hrel.blk i b hb
  rw [e1] at e'; simp at e'; obtain ⟨rfl, rfl, rfl⟩ := e'
  obtain ⟨_, r, _, hsh, hsr, _⟩ := br.own hro
  cases hi : P.info? t with
  | none => simp [szOf, hi] at ht
  | some j =>
    have hj := szOf_info ht hi
    refine does_same (s := convert s d (a.eval x)) hrel (by simp only [execOp, ho]) (v' := a.eval x) ?_ hx
    rw [e2]
    exact Lib.run_to_unsafe w ⟨p, q + off, none⟩ hs hd hi (by omega) hsh (by show q + off < r; omega)

theorem op_frus {s d t : TypeId} {n : Nat} {x : Operand} {i : Nat} {b : Blk} (ho : o.op = .convert s d x) (hs : P.underlying s = some .unsafePointer) (hd : P.underlying d = some (.pointer t)) (ht : szOf P t = some (n + 1)) (hx : VR φ (.ptr i 0) (a.eval x))
    (hb : H.get i = some b) (hty : b.ty = t) (hlt : n + 1 ≤ b.cells.length) (hwh : b.wh = true) (hro : b.ro = false) (hrel : Rel B φ H w) : Does P (Post B φ H w (.ok (.ptr i 0)) H) ((execOp a.eval o).run P w) := by
  obtain ⟨p, q, m, e1, e2⟩ := hx.ptr_inv
  obtain ⟨p', s', m', e', br⟩ := hrel.blk i b hb
  rw [e1] at e'; simp at e'; obtain ⟨rfl, rfl, rfl⟩ := e'
  obtain ⟨_, r, _, hsh, hsr, hw, _⟩ := br.own hro
  obtain ⟨rfl, rfl⟩ := hw hwh
  cases hi : P.info? t with
  | none => simp [szOf, hi] at ht
  | some j =>
    have hj := szOf_info ht hi
    refine does_same (s := convert s d (a.eval x)) hrel (by simp only [execOp, ho]) (v' := a.eval x) ?_ hx
    rw [e2]
    refine Lib.run_from_unsafe w ⟨p, 0 + 0, none⟩ hs hd hi hsh ?_
    have hdp : P.depth = (2 * (P.types.size + Made.depth) + 1) + 1 := rfl
    have hc : P.cellsOf t = n + 1 := by simp [Program.cellsOf, hi, hj]
    rw [hty, hdp]
    simp only [liesAt, Bool.or_eq_true]
    left
    rw [hdp]
    have h1 : 1 ≤ b.cells.length / (n + 1) := by rw [Nat.le_div_iff_mul_le (by omega)]; omega
    simp [rowAt, hc, sameLayout, h1]

theorem op_usd_nil {c : Go.Call} {x : Operand} (ho : o.op = .call c) (hc : c.callee = .builtin .unsafeSliceData) (hargs : c.args = #[x]) (hs : VR φ .nils (a.eval x)) (hrel : Rel B φ H w) : Does P (Post B φ H w (.ok .nilp) H) ((execOp a.eval o).run P w) := by
  obtain ⟨k, hex⟩ := exec_builtin (ρ := a.eval) ho hc
  have hex' : execOp a.eval o = (do pure (.value (← Builtin.unsafeSliceData_ c.argTypes o.type #[a.eval x]))) := by
    rw [hex, hargs, show (#[x] : Array Operand).map a.eval = #[a.eval x] by simp]; rfl
  refine does_same hrel hex' (v' := .pointer none) ?_ (VRs.nilp .nil)
  rw [hs.nils_inv]; rfl

theorem op_usd {c : Go.Call} {x : Operand} {i off z n : Nat} {cp : Option Nat} (ho : o.op = .call c) (hc : c.callee = .builtin .unsafeSliceData) (hargs : c.args = #[x]) (hs : VR φ (.sl i off z n cp) (a.eval x)) (hn : 0 < n) (hrel : Rel B φ H w) :
    Does P (Post B φ H w (.ok (.ptr i off)) H) ((execOp a.eval o).run P w) := by
  obtain ⟨k, hex⟩ := exec_builtin (ρ := a.eval) ho hc
  have hex' : execOp a.eval o = (do pure (.value (← Builtin.unsafeSliceData_ c.argTypes o.type #[a.eval x]))) := by
    rw [hex, hargs, show (#[x] : Array Operand).map a.eval = #[a.eval x] by simp]; rfl
  rcases hs.sl_inv with ⟨p, q, m, cc, e1, _, h2, _, e5⟩ | ⟨rfl, _⟩
  · refine does_same hrel hex' (v' := .pointer (some ⟨p, q + off, none⟩)) ?_ (VR.ptr e1)
    rw [e5]
    exact Lib.run_unsafeSliceData_row w _ _ _ _ _ (by omega)
  · omega

theorem freeze_heap (w : World) (p off n q : Nat) (h : q ≠ p) : (w.freeze ⟨p, off, none⟩ n).heap[q]? = w.heap[q]? := by
  unfold World.freeze
  split
  · rfl
  · simp only [Array.getElem?_modify]
    rw [if_neg (fun e => h e.symm)]

theorem op_ustr {c : Go.Call} {t it el : TypeId} {x y : Operand} {i : Nat} {b : Blk} {k : IntKind} {m : Int} {cs : List AV} {l : List UInt8} (ho : o.op = .call c) (hc : c.callee = .builtin .unsafeString) (hts : c.argTypes = #[t, it]) (hargs : c.args = #[x, y])
    (hu : P.underlying t = some (.pointer el)) (hsz : szOf P el = some 1) (hs : VR φ (.ptr i 0) (a.eval x)) (hm : VR φ (.int k m) (a.eval y)) (hki : k = .i64) (hb : H.get i = some b) (hty : b.ty = el) (hro : b.ro = false) (hs0 : b.s0 = true) (hfl : H.floor ≤ i) (h0 : 0 < m) (h1 : m ≤ 140737488351232)
    (hcs : H.cellsAt i 0 m.toNat = some cs) (hl : toBytes cs = some l) (hrel : Rel B φ H w) : Does P (Post B φ H w (.ok (.str l)) (H.kill i)) ((execOp a.eval o).run P w) := by
  obtain ⟨p, q, r0, e1, e2⟩ := hs.ptr_inv
  obtain ⟨p', s', m', e', br⟩ := hrel.blk i b hb
  rw [e1] at e'; simp at e'; obtain ⟨rfl, rfl, rfl⟩ := e'
  obtain ⟨_, r, _, hsh, hsr, _, hz, _⟩ := br.own hro
  obtain rfl := hz hs0
  obtain ⟨hlen, ds, hv, hcell⟩ := cellsAt_ok hrel hcs e1
  obtain ⟨h2, h3⟩ := toBytes_ok hl hv
  have hvl := hv.length
  obtain ⟨ck, hex⟩ := exec_builtin (ρ := a.eval) ho hc
  have hex' : execOp a.eval o = (do pure (.value (← Builtin.unsafeString_ #[t, it] o.type #[a.eval x, a.eval y]))) := by
    rw [hex, hts, hargs, show (#[x, y] : Array Operand).map a.eval = #[a.eval x, a.eval y] by simp]; rfl
  have hml : m = l.length := by omega
  have hle : l.length ≤ r := by
    unfold AH.cellsAt at hcs
    simp only [hb] at hcs
    split at hcs <;> simp at hcs
    omega
  cases hi : P.info? el with
  | none => simp [szOf, hi] at hsz
  | some j =>
    have hj := szOf_info hsz hi
    have hc1 : P.cellsOf el = 1 := by simp [Program.cellsOf, hi, hj]
    rw [hty] at hsh
    have hrun := Lib.run_unsafeString_row (P := P) w t it o.type el hu hc1 p r hsh l (by intro h; subst h; simp at hml; omega) hle (by omega) (fun j u hj => by
      have hj' : j < ds.length := by
        rcases Nat.lt_or_ge j l.length with h' | h'
        · omega
        · rw [List.getElem?_eq_none h'] at hj; simp at hj
      obtain ⟨b', hb', hdv⟩ := h3 j ds[j] (by simp [hj'])
      rw [hj] at hb'
      simp at hb'
      rw [add_eq, ← Nat.zero_add (0 + j), Nat.zero_add j]
      have := hcell j ds[j] (by simp [hj'])
      rw [hdv, ← hb'] at this
      simpa using this)
    have hkill := Step.kill hrel hb hro hfl e1 (w' := w.freeze ⟨p, 0, none⟩ l.length) (by unfold World.freeze; split <;> simp) (fun q hq => freeze_heap w p 0 l.length q hq) (by unfold World.freeze; split <;> rfl) (by unfold World.freeze; split <;> rfl) (by unfold World.freeze; split <;> rfl)
    refine does_val hex' ?_ hkill (VR.str l)
    rw [e2, hm.int_inv, hki, hml]
    exact hrun

theorem op_ustr_nil {c : Go.Call} {t it : TypeId} {x y : Operand} {k : IntKind} (ho : o.op = .call c) (hc : c.callee = .builtin .unsafeString) (hts : c.argTypes = #[t, it]) (hargs : c.args = #[x, y])
    (hs : VR φ .nilp (a.eval x)) (hm : VR φ (.int k 0) (a.eval y)) (hki : k = .i64) (hrel : Rel B φ H w) : Does P (Post B φ H w (.ok (.str [])) H) ((execOp a.eval o).run P w) := by
  obtain ⟨ck, hex⟩ := exec_builtin (ρ := a.eval) ho hc
  have hex' : execOp a.eval o = (do pure (.value (← Builtin.unsafeString_ #[t, it] o.type #[a.eval x, a.eval y]))) := by
    rw [hex, hts, hargs, show (#[x, y] : Array Operand).map a.eval = #[a.eval x, a.eval y] by simp]; rfl
  refine does_same hrel hex' (v' := .string .empty) ?_ (VR.str [])
  rw [hs.nilp_inv, hm.int_inv, hki]
  exact Lib.run_unsafeString_none w t it o.type none

end
end Go.Am
