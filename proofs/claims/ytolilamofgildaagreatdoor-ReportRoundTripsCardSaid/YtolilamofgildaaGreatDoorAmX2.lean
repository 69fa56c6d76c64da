/-
Texts joined, one after the other. Conditions: those that each theorem names.
-/
import Derived.Test.YtolilamofgildaaGreatDoorAmX1
set_option linter.unusedSimpArgs false
set_option linter.unusedVariables false

/- The reference's Table. Conditions: those that each theorem names. -/
namespace Go.Am

/-- A row of bytes of one's own that holds b, at a name from lo on. -/
def ByV (lo : Nat) (H : AH) (v : AV) (b : List UInt8) : Prop := ∃ q c, v = .sl q 0 1 b.length c ∧ lo ≤ q ∧ lo ≤ H.next ∧ Own H 5 1 q b.length c (ofBytes b)

theorem ByV.app {lo : Nat} {H : AH} {v : AV} {b : List UInt8} (h : ByV lo H v b) (t : List UInt8) (ht : t ≠ []) (hl : b.length + t.length ≤ 70368744177664) :
    ∃ v' H', aapp H 5 1 1 v (ofBytes t) = some (.ok v', H') ∧ ByV lo H' v' (b ++ t) ∧ Kept lo H H' ∧ (Names H → Names H') := by
  obtain ⟨q, c, rfl, hq, hn, ho⟩ := h
  obtain ⟨q', H', a1, a2, a3, a4⟩ := ho.app 1 (new := ofBytes t) (m := t.length) (by cases t with | nil => exact absurd rfl ht | cons => simp [ofBytes]) (by simp [ofBytes]) (by omega)
  rw [ofBytes_append] at a2
  refine ⟨_, H', a1, ⟨q', none, by rw [List.length_append], by omega, by have := a3.2.1; omega, by rw [List.length_append]; exact a2⟩, ⟨a3.1, a3.2.1, fun i hi => a3.2.2 i (by omega) (by omega)⟩, fun hN => aapp_names hN a1⟩
theorem ByV.push {lo : Nat} {H : AH} {v : AV} {b : List UInt8} (h : ByV lo H v b) (ty : TypeId) (wh : Bool) (cs : List AV) : ByV lo (H.push ty wh cs) v b := by
  obtain ⟨q, c, rfl, hq, hn, ho⟩ := h
  exact ⟨q, c, rfl, hq, Nat.le_succ_of_le hn, ho.push _ _ _⟩
theorem ByV.lenS {lo : Nat} {H : AH} {v : AV} {b : List UInt8} (h : ByV lo H v b) : lenS v = some b.length := by
  obtain ⟨q, c, rfl, _⟩ := h; rfl
theorem ByV.bytes {lo : Nat} {H : AH} {v : AV} {b : List UInt8} (h : ByV lo H v b) : takeFrom H 1 v = some (ofBytes b) := by
  obtain ⟨q, c, rfl, _, _, ho⟩ := h
  simp only [takeFrom, if_true]
  exact ho.cells
theorem exe_b2s {lo : Nat} {H : AH} {v : AV} {b : List UInt8} (h : ByV lo H v b) (call : Call) (e : Env) (x : Arg) (hx : x.val e = v) : exe call e (.b2s x) H = ok1 H (.str b) := by
  have hb := h.bytes
  obtain ⟨q, c, rfl, _⟩ := h
  simp only [exe, hx, hb, toBytes_of, Option.map_some, okM]
  rfl

end Go.Am

/- ReportTables on the machine. Conditions: the rows are read from the first heap. -/
namespace Go.Am

theorem Tryz.lives (H : AH) : Tryz.call 4 [] H = some (.ok (.bool true), H) :=
  ecall_of 8 [] _ _ (congrFun Tryz.awake_run H)

theorem smallB_le {rows : List (List (List UInt8))} (h : smallB rows = true) : rows.length ≤ 60 ∧ ∀ r ∈ rows, r.length ≤ 60 ∧ ∀ s ∈ r, s.length ≤ 1000 := by
  simp only [smallB, smallRow, Bool.and_eq_true, decide_eq_true_eq, List.all_eq_true] at h
  exact ⟨h.1, fun r hr => ⟨(h.2 r hr).1, fun s hs => (h.2 r hr).2 s hs⟩⟩

end Go.Am

/- The cells of a line, of the program and of the reference. Conditions: those that each theorem names. -/
namespace Go.Am

theorem Tryz.indexS (s p : List UInt8) (H : AH) (h : s.length < 4294967281) : Tryz.call 31 [.str s, .str p] H = some (.ok (.int .i64 (Lib.index s p)), H) :=
  ecall_ext 8 [] _ _ (g := gIndexS) rfl _ H (by unfold gIndexS; simp only [h, if_true]; rfl)
theorem Tryz.trimLeft (s : List UInt8) (H : AH) : Tryz.call 32 [.str s, .str [32]] H = some (.ok (.str (s.dropWhile (· == 32))), H) :=
  ecall_ext 8 [] _ _ (g := gTrimLeft) rfl _ H rfl

/-- A list of strings of one's own, from lo on, that begins as nil or empty. -/
def AccV (lo : Nat) (H : AH) (v : AV) (l : List (List UInt8)) : Prop := OutV lo H 9 1 v l.length (l.map AV.str)

theorem AccV.snoc {lo : Nat} {H : AH} {v : AV} {l : List (List UInt8)} (h : AccV lo H v l) (s : List UInt8) (hl : l.length ≤ 1000000000) :
    ∃ v' H', aapp (H.push 9 true [.str s]) 9 1 16 v [.str s] = some (.ok v', H') ∧ AccV lo H' v' (l ++ [s]) ∧ Kept lo H H' := by
  obtain ⟨v', H', a1, a2, a3, a4, a5⟩ := OutV.snoc h 16 (new := [.str s]) rfl (by omega)
  exact ⟨v', H', a1, by simpa [AccV] using a2, a3, a4, a5⟩

/-- It comes back as a list. -/
theorem AccV.back {lo kp : Nat} {H H1 : AH} {v : AV} {l : List (List UInt8)} {vs : List AV} {R : List AV → AH → Prop} (h : AccV lo H1 v l) (hk : kp ≤ lo) (hv : vs.all flat2 = true) (hN : Names H)
    (hR : ∀ u H', StrsV H'.next H' u l → Grow H H' → Names H' → (∀ i o z m c, u = .sl i o z m c → H.next ≤ i) → R (u :: vs) H') : Back kp H R (v :: vs) H1 := by
  obtain ⟨hz, h1, h2, h3⟩ := h
  rcases h3 with ⟨rfl, e1, e2⟩ | ⟨q, c, h4, rfl, h6⟩
  · refine back_flat (by rw [List.all_cons, hv]; rfl) (hR .nils H ⟨?_, fun _ _ _ _ _ e => by cases e⟩ (Grow.refl _) hN fun _ _ _ _ _ e => by cases e)
    rw [e1, e2]; exact .nil
  · obtain ⟨_, hl, hc, hf, hn, wh, s0, hq⟩ := h6
    refine back_slice (by omega) hq rfl (by simp [flat1]) hv (hR _ _ ⟨?_, fun _ _ _ _ _ e => by cases e; exact Nat.lt_succ_self _⟩ (Grow.take1 _ _) ?_ fun _ _ _ _ _ e => by cases e; exact Nat.le_refl _)
    · have := SliceV.sl (H := H.take1 ⟨l.map AV.str, false, 9, wh, s0⟩) (z := 1) (i := H.next) (o := 0) (n := l.length) (c := c) (get_take1 _ _) (by simp)
      rw [List.drop_zero, List.take_of_length_le (by simp)] at this
      exact this
    · intro x hx
      show x.1 < H.next + 1
      rcases List.mem_cons.1 hx with rfl | hx
      · exact Nat.lt_succ_self _
      · have := hN x hx; omega

theorem Tryz.cellsLoop (lo : Nat) (K : AX → St → Prop) (ks : List Fr) (L : ACode) (hL : L = .loop (some [0, 3]) Tryz.fn19_l0) :
    ∀ (n : Nat) (s : List UInt8) (acc : List (List UInt8)) (v : AV) (H : AH), s.length ≤ n → s.length + acc.length ≤ 4000000 → AccV lo H v acc → (∀ e v' H', AccV lo H' v' (acc ++ cellsL s) → e.at 2 = v' → Rt Tryz.call K ks e H') →
      W Tryz.call K (.block 0 :: ks) [(0, .str s), (3, v)] H L := by
  intro n
  induction n with
  | zero =>
    intro s acc v H hn hl ha hr
    have hs : s = [] := List.length_eq_zero_iff.1 (by omega)
    subst hs
    refine W_loopN hL ?_
    have hix := Tryz.indexS [] [32, 32]
    have e0 : Lib.index [] [32, 32] = -1 := rfl
    rw [e0] at hix
    have hix := fun H => hix H (by simp)
    obtain ⟨v', H', a1, a2, a3⟩ := ha.snoc [] (by simp at hl; omega)
    have c1 : (H.push 9 true [.str []]).cellsAt H.next 0 1 = some [.str []] := cellsAt_new _ _ _ _ rfl
    simp only [Tryz.fn19_l0, Tryz.fn19_r2, hix, AmR, kp, exe, Arg.val, Env.at, lk, putd, ok1, Option.getD_some, if_true, if_false, reduceCtorEq, Nat.reduceEqDiff, List.map_cons, List.map_nil, Int.reduceNeg]
    simp only [Tryz.fn19_r3, AmR, kp, pushA, exe, Arg.val, Env.at, lk, putd, ok1, okM, abin, Option.getD_some, if_true, if_false, reduceCtorEq, Nat.reduceEqDiff, decide_true, Int.reduceLT, Int.reduceNeg]
    simp only [Tryz.fn19_r4, takeFrom, c1, a1, AmR, kp, exe, Arg.val, Env.at, lk, putd, AV.cells?, ok1, Option.getD_some, if_true, if_false, reduceCtorEq, Nat.reduceEqDiff, Nat.reduceAdd, Nat.reduceMul, Bool.true_eq_false, and_true, List.append_nil, Nat.reduceLeDiff, List.map_cons, List.map_nil, putAt, solid, List.all_cons, List.all_nil, Bool.and_self, List.length_cons, List.length_nil, afill, rep, Int.reduceNeg, List.reduceReplicate, List.flatten_cons, List.flatten_nil, List.set_cons_zero]
    exact hr _ v' H' a2 rfl
  | succ n ih =>
    intro s acc v H hn hl ha hr
    refine W_loopN hL ?_
    have hix := Tryz.indexS s [32, 32]
    rw [index_dd] at hix
    rw [cellsL_eq] at hr
    cases hc : cutDD s with
    | none =>
      rw [hc] at hix hr
      have hix := fun H => hix H (by omega)
      obtain ⟨v', H', a1, a2, a3⟩ := ha.snoc s (by omega)
      have c1 : (H.push 9 true [.str s]).cellsAt H.next 0 1 = some [.str s] := cellsAt_new _ _ _ _ rfl
      simp only [Tryz.fn19_l0, Tryz.fn19_r2, hix, AmR, kp, exe, Arg.val, Env.at, lk, putd, ok1, Option.getD_some, if_true, if_false, reduceCtorEq, Nat.reduceEqDiff, List.map_cons, List.map_nil, Int.reduceNeg]
      simp only [Tryz.fn19_r3, AmR, kp, pushA, exe, Arg.val, Env.at, lk, putd, ok1, okM, abin, Option.getD_some, if_true, if_false, reduceCtorEq, Nat.reduceEqDiff, decide_true, Int.reduceLT, Int.reduceNeg]
      simp only [Tryz.fn19_r4, takeFrom, c1, a1, AmR, kp, exe, Arg.val, Env.at, lk, putd, AV.cells?, ok1, Option.getD_some, if_true, if_false, reduceCtorEq, Nat.reduceEqDiff, Nat.reduceAdd, Nat.reduceMul, Bool.true_eq_false, and_true, List.append_nil, Nat.reduceLeDiff, List.map_cons, List.map_nil, putAt, solid, List.all_cons, List.all_nil, Bool.and_self, List.length_cons, List.length_nil, afill, rep, Int.reduceNeg, List.reduceReplicate, List.flatten_cons, List.flatten_nil, List.set_cons_zero]
      exact hr _ v' H' a2 rfl
    | some p =>
      obtain ⟨a, b⟩ := p
      rw [hc] at hix hr
      have hix := fun H => hix H (by omega)
      obtain ⟨hs, t, hb⟩ := cutDD_some hc
      have hal : a.length + 2 ≤ s.length := by rw [hs, hb]; simp
      have hneg : ((a.length : Int) < 0) = False := eq_false (by omega)
      have hb1 : bnds s.length s.length none (some (.int .i64 (a.length : Int))) = some (0, a.length) := by
        have : (0 : Int) ≤ (a.length : Int) ∧ (a.length : Int) ≤ (s.length : Int) := by omega
        simp [bnds, bnd, this]
      have hb2 : bnds s.length s.length (some (.int .i64 (a.length : Int))) none = some (a.length, s.length) := by
        have : (0 : Int) ≤ (a.length : Int) ∧ (a.length : Int) ≤ (s.length : Int) := by omega
        simp [bnds, bnd, this]
      have ht1 : (s.drop 0).take (a.length - 0) = a := by rw [hs]; simp
      have ht2 : (s.drop a.length).take (s.length - a.length) = b := by rw [hs]; simp
      obtain ⟨v', H', a1, a2, a3⟩ := ha.snoc a (by omega)
      have c1 : (H.push 9 true [.str a]).cellsAt H.next 0 1 = some [.str a] := cellsAt_new _ _ _ _ rfl
      have htl := Tryz.trimLeft b
      have hdl : (b.dropWhile (· == 32)).length + 2 ≤ b.length := by
        have := dropWhile_le t (· == 32)
        rw [hb]; simp; omega
      have hbl : a.length + b.length = s.length := by rw [hs]; simp
      simp only [Tryz.fn19_l0, Tryz.fn19_r2, hix, AmR, kp, exe, Arg.val, Env.at, lk, putd, ok1, Option.getD_some, if_true, if_false, reduceCtorEq, Nat.reduceEqDiff, List.map_cons, List.map_nil]
      simp only [Tryz.fn19_r3, hneg, AmR, kp, pushA, exe, Arg.val, Env.at, lk, putd, ok1, okM, abin, Option.getD_some, if_true, if_false, reduceCtorEq, Nat.reduceEqDiff, decide_false]
      simp only [Tryz.fn19_r5, hb1, ht1, takeFrom, c1, a1, AmR, kp, exe, Arg.val, Env.at, lk, putd, AV.cells?, ok1, Option.getD_some, if_true, if_false, reduceCtorEq, Nat.reduceEqDiff, Nat.reduceAdd, Nat.reduceMul, Bool.true_eq_false, and_true, List.append_nil, Nat.reduceLeDiff, List.map_cons, List.map_nil, putAt, solid, List.all_cons, List.all_nil, Bool.and_self, List.length_cons, List.length_nil, Option.map_some, Option.map_none, afill, rep, List.reduceReplicate, List.flatten_cons, List.flatten_nil, List.set_cons_zero]
      simp only [Tryz.fn19_r6, hb2, ht2, htl, AmR, kp, exe, Arg.val, Env.at, lk, putd, ok1, Option.getD_some, if_true, if_false, reduceCtorEq, Nat.reduceEqDiff, List.map_cons, List.map_nil, Option.map_some, Option.map_none]
      refine ih _ (acc ++ [a]) v' H' (by omega) (by simp; omega) a2 fun e v'' H'' h1 h2 => hr e v'' H'' (by simpa using h1) h2

theorem Tryz.cells (s : List UInt8) (hs : s.length ≤ 4000000) (H : AH) (hN : Names H) : ∃ u H', Tryz.call 19 [.str s] H = some (.ok u, H') ∧ StrsV H'.next H' u (cellsL s) ∧ Grow H H' ∧ Names H' ∧ ∀ i o z m c, u = .sl i o z m c → H.next ≤ i := by
  obtain ⟨vs, H', ⟨u, rfl, h1, h2, h3, h4⟩, hc⟩ := ecall_vE 8 [] (lk Tryz.ext) (lk Tryz.tab) (f := 19) (fn := Tryz.fn19) (args := [.str s]) (H := H) (R := fun vs H' => ∃ u, vs = [u] ∧ StrsV H'.next H' u (cellsL s) ∧ Grow H H' ∧ Names H' ∧ ∀ i o z m c, u = .sl i o z m c → H.next ≤ i) rfl rfl rfl (views_flat rfl (views_nil H 8)) (by
    show W Tryz.call _ _ _ _ _
    simp only [Tryz.fn19, Tryz.fn19_r0, Tryz.fn19_r1, AmR, kp, exe, number, Arg.val, Env.at, lk, putd, ok1, Option.getD_some, if_true, if_false, reduceCtorEq, List.append_nil]
    refine Tryz.cellsLoop 8 _ _ _ rfl s.length s [] .nils _ (Nat.le_refl _) (by simpa using hs) ⟨by omega, Nat.le_refl _, Nat.le_refl _, .inl ⟨rfl, rfl, rfl⟩⟩ fun e v' H' h1 h2 => ?_
    rw [List.nil_append] at h1
    simp only [Rt_nil, endK_ret, resAll, resOf, h2, Option.some.injEq, exists_eq_left']
    exact h1.back (Nat.le_refl _) rfl hN fun u H'' k1 k2 k3 k4 => ⟨u, rfl, k1, k2, k3, k4⟩)
  exact ⟨u, H', hc, h1, h2, h3, h4⟩

end Go.Am

/- The reference's cells and lines. Conditions: those that each theorem names. -/
namespace Go.Am

theorem bnds_in {n a b : Nat} (h1 : a ≤ b) (h2 : b ≤ n) : bnds n n (some (.int .i64 (a : Int))) (some (.int .i64 (b : Int))) = some (a, b) := by
  have e1 : (0 : Int) ≤ (a : Int) ∧ (a : Int) ≤ (b : Int) := by omega
  have e2 : (0 : Int) ≤ (b : Int) ∧ (b : Int) ≤ (n : Int) := by omega
  simp [bnds, bnd, e1, e2]
theorem bnds_lo {n a : Nat} (h1 : a ≤ n) : bnds n n (some (.int .i64 (a : Int))) none = some (a, n) := by
  have e1 : (0 : Int) ≤ (a : Int) ∧ (a : Int) ≤ (n : Int) := by omega
  simp [bnds, bnd, e1]

theorem drop_split {s : List UInt8} {a b : Nat} (h : a ≤ b) : s.drop a = (s.drop a).take (b - a) ++ s.drop b := by
  have := List.take_append_drop (b - a) (s.drop a)
  rw [List.drop_drop] at this
  rw [show a + (b - a) = b by omega] at this
  exact this.symm

/-! ### Lines -/

/-- The lines, and what follows the last line feed, if there is something. -/
def linesR (s : List UInt8) : List (List UInt8) := (linesL s).1 ++ (if (linesL s).2 = [] then [] else [(linesL s).2])

end Go.Am

/- Rows, of the program and of the reference; the law of rows. Conditions: those that each theorem names. -/
namespace Go.Am

/-- A list of lists of strings of one's own, from lo on. -/
def TabA (lo : Nat) (H : AH) (v : AV) (rows : List (List (List UInt8))) : Prop :=
  lo ≤ H.next ∧ H.floor ≤ lo ∧ ((v = .nils ∧ rows = []) ∨ ∃ q c us, v = .sl q 0 1 rows.length c ∧ lo ≤ q ∧ us.length = rows.length ∧ Own H 38 1 q rows.length c us ∧
    ∀ (i : Nat) u r, us[i]? = some u → rows[i]? = some r → StrsV H.next H u r ∧ ∀ j o z m c', u = .sl j o z m c' → j ≠ q)

theorem StrsV.stay {H H' : AH} {q : Nat} {u : AV} {r : List (List UInt8)} (h : StrsV H.next H u r) (hs : Stay H H' q) (hq : ∀ j o z m c', u = .sl j o z m c' → j ≠ q) : StrsV H'.next H' u r := by
  refine ⟨?_, fun i o z m c e => Nat.lt_of_lt_of_le (h.2 i o z m c e) hs.2.1⟩
  rcases h.1.cases with ⟨rfl, h1, h2⟩ | ⟨rfl, h1, h2⟩ | ⟨i, o, c, b, rfl, hb, hl, hcs⟩
  · rw [h1, h2]; exact .nil
  · rw [h1, h2]; exact .emp
  · rw [← hcs]
    exact SliceV.sl ((hs.2.2 i (h.2 _ _ _ _ _ rfl) (hq _ _ _ _ _ rfl)).trans hb) hl

theorem SliceV.solid {H : AH} {z : Nat} {v : AV} {n : Nat} {cs : List AV} (h : SliceV H z v n cs) : Go.Am.solid v = true ∧ v.cells? = some [v] := by
  cases h <;> exact ⟨rfl, rfl⟩

theorem TabA.grow {lo : Nat} {H H' : AH} {v : AV} {rows : List (List (List UInt8))} (h : TabA lo H v rows) (hg : Grow H H') : TabA lo H' v rows := by
  obtain ⟨h1, h2, h3⟩ := h
  refine ⟨Nat.le_trans h1 hg.2.1, by rw [hg.1]; exact h2, ?_⟩
  rcases h3 with h3 | ⟨q, c, us, e1, e2, e3, e4, e5⟩
  · exact .inl h3
  · exact .inr ⟨q, c, us, e1, e2, e3, e4.stay (q' := H.next) ⟨hg.1, hg.2.1, fun i hi _ => hg.2.2 i hi⟩ (by obtain ⟨_, _, _, _, hn, _⟩ := e4; omega), fun i u r hu hr => ⟨(e5 i u r hu hr).1.old hg.2.1 hg.2.2, (e5 i u r hu hr).2⟩⟩

theorem TabA.tab {lo : Nat} {H : AH} {v : AV} {rows : List (List (List UInt8))} (h : TabA lo H v rows) : TabV H.next H v rows := by
  obtain ⟨h1, h2, h3⟩ := h
  rcases h3 with ⟨rfl, rfl⟩ | ⟨q, c, us, rfl, e2, e3, e4, e5⟩
  · exact ⟨fun _ _ _ _ _ e => (by cases e), [], rfl, .nil, fun i u r hu => by simp at hu⟩
  · have hc := e4.cells
    obtain ⟨_, hl, _, _, hn, wh, s0, hq⟩ := e4
    refine ⟨fun _ _ _ _ _ e => (by cases e; exact hn), us, e3, ?_, fun i u r hu hr => (e5 i u r hu hr).1⟩
    have := SliceV.sl (H := H) (z := 1) (i := q) (o := 0) (n := rows.length) (c := c) hq (by show 0 + rows.length * 1 ≤ us.length; omega)
    rw [List.drop_zero, List.take_of_length_le (by show us.length ≤ _; omega)] at this
    exact this

theorem TabA.snoc {lo : Nat} {H0 H : AH} {v u : AV} {rows : List (List (List UInt8))} {r : List (List UInt8)} (h0 : TabA lo H0 v rows) (hg : Grow H0 H) (hu : StrsV H.next H u r) (hun : ∀ i o z m c, u = .sl i o z m c → H0.next ≤ i) (hl : rows.length ≤ 1000000000) :
    ∃ v' H', aapp (H.push 38 true [u]) 38 1 24 v [u] = some (.ok v', H') ∧ TabA lo H' v' (rows ++ [r]) ∧ Kept lo H H' ∧ (Names H → Names H') := by
  obtain ⟨h1, h2, h3⟩ := h0.grow hg
  have hu2 : StrsV (H.push 38 true [u]).next (H.push 38 true [u]) u r := hu.old (Nat.le_succ _) fun i hi => get_push_old _ _ _ _ hi
  rcases h3 with ⟨rfl, rfl⟩ | ⟨q, c, us, rfl, e2, e3, e4, e5⟩
  · refine ⟨.sl (H.next + 1) 0 1 1 none, (H.push 38 true [u]).push 38 false [u], ?_, ⟨by show lo ≤ H.next + 1 + 1; omega, h2, .inr ⟨H.next + 1, none, [u], rfl, by omega, rfl, own_new (H.push 38 true [u]) 38 false [u] none (by omega) rfl (.inr rfl) (by show H.floor ≤ H.next + 1; omega), fun i u' r' hu' hr' => ?_⟩⟩, (Kept.push lo H h1 _ _ _).trans (Kept.push lo _ (by show lo ≤ H.next + 1; omega) _ _ _), fun hN => (hN.push _ _ _).push _ _ _⟩
    · unfold aapp
      simp [ok1]
      rfl
    · cases i with
      | zero =>
        simp at hu' hr'
        subst hu'; subst hr'
        exact ⟨hu2.old (Nat.le_succ _) fun i hi => get_push_old _ _ _ _ hi, fun j o z m c' e => by have := hu.2 _ _ _ _ _ e; omega⟩
      | succ i => simp at hu'
  · have hqn : q < H0.next := by
      obtain ⟨_, _, g3⟩ := h0
      rcases g3 with ⟨e, _⟩ | ⟨q', c', us', e, _, _, e4', _⟩
      · cases e
      · cases e
        obtain ⟨_, _, _, _, hn, _⟩ := e4'
        exact hn
    obtain ⟨q', H', a1, a2, a3, a4⟩ := e4.snoc 24 (new := [u]) (m := 1) (by simp) rfl (by omega)
    refine ⟨_, H', a1, ⟨by have := a3.2.1; omega, by rw [a3.1]; exact h2, .inr ⟨q', none, us ++ [u], by rw [List.length_append]; rfl, by omega, by simp [e3], by rw [List.length_append]; exact a2, fun i u' r' hu' hr' => ?_⟩⟩, ⟨a3.1, a3.2.1, fun i hi => a3.2.2 i (by omega) (by omega)⟩, fun hN => aapp_names (hN.push _ _ _) a1⟩
    by_cases hi : i < us.length
    · rw [List.getElem?_append_left hi] at hu'
      rw [List.getElem?_append_left (by omega)] at hr'
      obtain ⟨k1, k2⟩ := e5 i u' r' hu' hr'
      exact ⟨k1.stay a3 k2, fun j o z m c' e => by have := k1.2 _ _ _ _ _ e; omega⟩
    · rw [List.getElem?_append_right (by omega)] at hu'
      rw [List.getElem?_append_right (by omega)] at hr'
      have e0 : i - us.length = 0 := by
        by_cases h : i - us.length = 0
        · exact h
        · rw [List.getElem?_eq_none (by simp; omega)] at hu'; cases hu'
      rw [e0] at hu'
      rw [show i - rows.length = 0 by omega] at hr'
      simp at hu' hr'
      subst hu'; subst hr'
      exact ⟨hu.stay a3 fun j o z m c' e => by have := hun _ _ _ _ _ e; omega, fun j o z m c' e => by have := hu.2 _ _ _ _ _ e; omega⟩

theorem Tryz.indexByte (s : List UInt8) (H : AH) : Tryz.call 18 [.str s, .int .u8 10] H = some (.ok (.int .i64 (Lib.indexByte s 10)), H) :=
  ecall_ext 8 [] _ _ (g := gIndexByte) rfl _ H rfl

theorem indexByte_none {s : List UInt8} {c : UInt8} (h : c ∉ s) : Lib.indexByte s c = -1 := by
  induction s with
  | nil => rfl
  | cons b s ih =>
    have h1 : ¬ (b == c) = true := by simp; intro e; exact h (by simp [e])
    unfold Lib.indexByte
    rw [if_neg h1, ih (fun e => h (by simp [e]))]
    rfl
theorem indexByte_at {l u : List UInt8} {c : UInt8} (h : c ∉ l) : Lib.indexByte (l ++ c :: u) c = l.length := by
  induction l with
  | nil => unfold Lib.indexByte; simp
  | cons b l ih =>
    have h1 : ¬ (b == c) = true := by simp; intro e; exact h (by simp [e])
    rw [List.cons_append]
    unfold Lib.indexByte
    rw [if_neg h1, ih (fun e => h (by simp [e]))]
    have : ¬ ((l.length : Int) == -1) = true := by simp
    rw [if_neg this]
    simp

theorem line_cases (s : List UInt8) : (10 : UInt8) ∉ s ∨ ∃ l u, s = l ++ 10 :: u ∧ (10 : UInt8) ∉ l := by
  induction s with
  | nil => left; simp
  | cons c s ih =>
    by_cases hc : c = 10
    · subst hc; exact .inr ⟨[], s, rfl, by simp⟩
    · rcases ih with h | ⟨l, u, rfl, h⟩
      · left; simp only [List.mem_cons, not_or]; exact ⟨fun e => hc e.symm, h⟩
      · exact .inr ⟨c :: l, u, rfl, by simp only [List.mem_cons, not_or]; exact ⟨fun e => hc e.symm, h⟩⟩

theorem Tryz.rowsLoop (s0 : List UInt8) (lo : Nat) (H0 : AH) (K : AX → St → Prop) (ks : List Fr) (L : ACode) (hL : L = .loop (some [0, 4, 5]) Tryz.fn8_l0) :
    ∀ (n : Nat) (s : List UInt8) (acc : List (List (List UInt8))) (v : AV) (H : AH), s.length ≤ n → s.length + acc.length ≤ 4000000 → TabA lo H v acc → Kept lo H0 H → Names H →
      ((linesL s).2 = [] → ∀ v' H' w w', TabA lo H' v' (acc ++ (linesL s).1.map cellsL) → Kept lo H0 H' → Names H' → Nx Tryz.call K ks [(14, .bool false), (0, .str s0), (4, v'), (5, w), (14, w')] H') →
      ((linesL s).2 ≠ [] → ∀ e H', Kept lo H0 H' → Names H' → e.at 2 = .nils → e.at 3 = .int .i64 4 → Rt Tryz.call K ks e H') →
      W Tryz.call K (.block 0 :: ks) [(0, .str s0), (4, v), (5, .str s)] H L := by
  intro n
  induction n with
  | zero =>
    intro s acc v H hn hl ha hK hN hd hf
    have hs : s = [] := List.length_eq_zero_iff.1 (by omega)
    subst hs
    refine W_loopN hL ?_
    simp only [Tryz.fn8_l0, Tryz.fn8_r5, AmR, Cd_nbeq, kp, pushA, exe, Arg.val, Env.at, lk, putd, ok1, okM, abin, Option.getD_some, if_true, if_false, reduceCtorEq, Nat.reduceEqDiff]
    exact ⟨fun _ => hd rfl v H _ _ (by simpa [linesL] using ha) hK hN, fun h => absurd trivial h⟩
  | succ n ih =>
    intro s acc v H hn hl ha hK hN hd hf
    by_cases hs : s = []
    · subst hs
      refine W_loopN hL ?_
      simp only [Tryz.fn8_l0, Tryz.fn8_r5, AmR, Cd_nbeq, kp, pushA, exe, Arg.val, Env.at, lk, putd, ok1, okM, abin, Option.getD_some, if_true, if_false, reduceCtorEq, Nat.reduceEqDiff]
      exact ⟨fun _ => hd rfl v H _ _ (by simpa [linesL] using ha) hK hN, fun h => absurd trivial h⟩
    refine W_loopN hL ?_
    have e0 : (s = []) = False := eq_false hs
    have hix := Tryz.indexByte s
    rcases line_cases s with hno | ⟨l, u, rfl, hno⟩
    · rw [indexByte_none hno] at hix
      rw [linesL_rest s hno] at hd hf
      simp only [Tryz.fn8_l0, Tryz.fn8_r5, e0, false_implies, not_false_eq_true, true_implies, AmR, Cd_nbeq, kp, pushA, exe, Arg.val, Env.at, lk, putd, ok1, okM, abin, Option.getD_some, if_true, if_false, reduceCtorEq, Nat.reduceEqDiff, true_and]
      simp only [Tryz.fn8_r6, hix, AmR, kp, exe, Arg.val, Env.at, lk, putd, ok1, Option.getD_some, if_true, if_false, reduceCtorEq, Nat.reduceEqDiff, List.map_cons, List.map_nil, Int.reduceNeg]
      simp only [Tryz.fn8_r7, AmR, kp, pushA, exe, Arg.val, Env.at, lk, putd, ok1, okM, abin, Option.getD_some, if_true, if_false, reduceCtorEq, Nat.reduceEqDiff, decide_true, Int.reduceLT, Int.reduceNeg]
      simp only [Tryz.fn8_r8, AmR, kp, exe, Arg.val, Env.at, lk, putd, ok1, Option.getD_some, if_true, if_false, reduceCtorEq, Nat.reduceEqDiff, Int.reduceNeg]
      exact hf hs _ H hK hN rfl rfl
    · rw [indexByte_at hno] at hix
      rw [linesL_line l u hno] at hd hf
      have hsl : (l ++ 10 :: u).length = l.length + 1 + u.length := by simp; omega
      have hneg : ((l.length : Int) < 0) = False := eq_false (by omega)
      have hb1 : bnds (l ++ 10 :: u).length (l ++ 10 :: u).length none (some (.int .i64 (l.length : Int))) = some (0, l.length) := by
        have : (0 : Int) ≤ (l.length : Int) ∧ (l.length : Int) ≤ ((l ++ 10 :: u).length : Int) := by omega
        simp only [bnds, bnd, this, and_self, if_true, Int.toNat_natCast]
      have ht1 : ((l ++ 10 :: u).drop 0).take (l.length - 0) = l := by simp
      have hw := succ_wrap (i := l.length) (by omega)
      have hb2 := bnds_lo (n := (l ++ 10 :: u).length) (a := l.length + 1) (by omega)
      have ht2 : ((l ++ 10 :: u).drop (l.length + 1)).take ((l ++ 10 :: u).length - (l.length + 1)) = u := by
        rw [List.take_of_length_le (by simp; omega)]
        rw [show l ++ 10 :: u = (l ++ [10]) ++ u by simp]
        rw [List.drop_append_of_le_length (by simp)]
        simp
      obtain ⟨cv, H1, b1, b2, b3, b4, b5⟩ := Tryz.cells l (by omega) H hN
      obtain ⟨hsol, hcel⟩ := b2.1.solid
      obtain ⟨v', H2, c1, c2, c3, c4⟩ := ha.snoc b3 b2 b5 (by omega)
      have cc : (H1.push 38 true [cv]).cellsAt H1.next 0 1 = some [cv] := cellsAt_new _ _ _ _ rfl
      have hlo : lo ≤ H.next := ha.1
      simp only [Tryz.fn8_l0, Tryz.fn8_r5, e0, false_implies, not_false_eq_true, true_implies, AmR, Cd_nbeq, kp, pushA, exe, Arg.val, Env.at, lk, putd, ok1, okM, abin, Option.getD_some, if_true, if_false, reduceCtorEq, Nat.reduceEqDiff, true_and]
      simp only [Tryz.fn8_r6, hix, AmR, kp, exe, Arg.val, Env.at, lk, putd, ok1, Option.getD_some, if_true, if_false, reduceCtorEq, Nat.reduceEqDiff, List.map_cons, List.map_nil]
      simp only [Tryz.fn8_r7, hneg, AmR, kp, pushA, exe, Arg.val, Env.at, lk, putd, ok1, okM, abin, Option.getD_some, if_true, if_false, reduceCtorEq, Nat.reduceEqDiff, decide_false]
      simp only [Tryz.fn8_r9, hb1, ht1, b1, hcel, takeFrom, cc, hsol, c1, AmR, kp, exe, Arg.val, Env.at, lk, putd, ok1, Option.getD_some, if_true, if_false, reduceCtorEq, Nat.reduceEqDiff, Nat.reduceAdd, Nat.reduceMul, Bool.true_eq_false, and_true, List.append_nil, Nat.reduceLeDiff, List.map_cons, List.map_nil, putAt, List.all_cons, List.all_nil, Bool.and_self, List.length_cons, List.length_nil, Option.map_some, Option.map_none, afill, rep, List.reduceReplicate, List.flatten_cons, List.flatten_nil, List.set_cons_zero]
      simp only [Tryz.fn8_r10, hw, hb2, ht2, AmR, kp, exe, Arg.val, Env.at, lk, putd, ok1, okM, abin, Option.getD_some, if_true, if_false, reduceCtorEq, Nat.reduceEqDiff, Option.map_some, Option.map_none]
      exact ih u (acc ++ [cellsL l]) v' H2 (by omega) (by simp; omega) c2 ((hK.trans (b3.kept hlo)).trans c3) (c4 b4) (fun h v3 H3 w w' k1 k2 k3 => hd h v3 H3 w w' (by simpa using k1) k2 k3) hf

theorem linesL_len : ∀ (s : List UInt8), (linesL s).1.length + (linesL s).2.length ≤ s.length ∧ (∀ l ∈ (linesL s).1, l.length ≤ s.length)
  | [] => by simp [linesL]
  | c :: t => by
    obtain ⟨h1, h2⟩ := linesL_len t
    unfold linesL
    split
    · refine ⟨by simp; omega, fun l hl => ?_⟩
      rcases List.mem_cons.1 hl with rfl | hl
      · simp
      · have := h2 l hl; simp; omega
    · cases hx : (linesL t).1 with
      | nil => rw [hx] at h1; exact ⟨by simp at h1 ⊢; omega, fun l hl => by cases hl⟩
      | cons a ls =>
        rw [hx] at h1 h2
        refine ⟨by simp at h1 ⊢; omega, fun l hl => ?_⟩
        rcases List.mem_cons.1 hl with rfl | hl
        · have := h2 a (by simp); simp; omega
        · have := h2 l (by simp [hl]); simp; omega

theorem cellsF_len : ∀ (n : Nat) (s : List UInt8), (cellsF n s).length ≤ n + 1 ∧ ∀ x ∈ cellsF n s, x.length ≤ s.length
  | 0, s => by simp [cellsF]
  | n + 1, s => by
    unfold cellsF
    cases hc : cutDD s with
    | none => simp
    | some p =>
      obtain ⟨a, b⟩ := p
      obtain ⟨hs, _⟩ := cutDD_some hc
      obtain ⟨h1, h2⟩ := cellsF_len n (b.dropWhile (· == 32))
      have h3 := dropWhile_le b (· == 32)
      have h4 : s.length = a.length + b.length := by rw [hs]; simp
      refine ⟨by simp; omega, fun x hx => ?_⟩
      rcases List.mem_cons.1 hx with rfl | hx
      · omega
      · have := h2 x hx; omega

/-- Bounds of what a text says. -/
theorem rows_bound {s : List UInt8} (hs : s.length ≤ 3000000) : ((linesL s).1.map cellsL).length ≤ 3000000 ∧ ∀ r ∈ (linesL s).1.map cellsL, r.length ≤ 4000000 ∧ ∀ x ∈ r, x.length ≤ 4000000 := by
  obtain ⟨h1, h2⟩ := linesL_len s
  refine ⟨by rw [List.length_map]; omega, fun r hr => ?_⟩
  obtain ⟨l, hl, rfl⟩ := List.mem_map.1 hr
  have h3 := h2 l hl
  obtain ⟨h4, h5⟩ := cellsF_len l.length l
  exact ⟨by show (cellsF l.length l).length ≤ _; omega, fun x hx => by have := h5 x hx; omega⟩

theorem Tryz.rowsText (s : List UInt8) (hs : s.length ≤ 3000000) (H : AH) (hN : Names H) (hfl : H.floor ≤ H.next) :
    ∃ v H', Tryz.call 8 [.str s] H = some (.ok (.tup [v, .int .i64 (rowsE s)]), H') ∧ TabV H'.next H' v (rowsS s) ∧ Kept H.next H H' ∧ Names H' := by
  have none : TabV H.next H .nils [] := ⟨fun _ _ _ _ _ e => (by cases e), [], rfl, .nil, fun i u r hu => by simp at hu⟩
  by_cases hbig : (s.length : Int) > 1048576
  · have e1 : ((s.length : Int) > 1048576) = True := eq_true hbig
    have hE : rowsE s = 6 := by unfold rowsE; rw [if_neg (by omega)]
    have hS : rowsS s = [] := by unfold rowsS; rw [if_neg (by rw [hE]; simp)]
    refine ⟨.nils, H, ?_, by rw [hS]; exact none, Kept.refl _ _, hN⟩
    refine ecall_W 8 [] _ _ (out := [.nils, .int .i64 (rowsE s)]) rfl rfl rfl ?_
    show W Tryz.call _ _ _ _ _
    rw [hE]
    simp only [Tryz.fn8, Tryz.fn8_r0, AmR, kp, exe, number, Arg.val, Env.at, lk, putd, ok1, Option.getD_some, if_true, if_false, reduceCtorEq]
    simp only [Tryz.fn8_r1, e1, AmR, kp, pushA, exe, Arg.val, Env.at, lk, putd, ok1, okM, abin, Option.getD_some, if_true, if_false, reduceCtorEq, Nat.reduceEqDiff, decide_true]
    simp only [Tryz.fn8_r2, exactK_ret, AmR, kp, exe, Arg.val, Env.at, lk, putd, ok1, Option.getD_some, if_true, if_false, reduceCtorEq, Nat.reduceEqDiff, resAll, resOf, and_true]
  have e1 : ((s.length : Int) > 1048576) = False := eq_false hbig
  obtain ⟨vs, H', ⟨v, rfl, h1, h2, h3⟩, hc⟩ := ecall_E 8 [] (lk Tryz.ext) (lk Tryz.tab) (f := 8) (fn := Tryz.fn8) (args := [.str s]) (H := H) (R := fun vs H' => ∃ v, vs = [v, .int .i64 (rowsE s)] ∧ TabV H'.next H' v (rowsS s) ∧ Kept H.next H H' ∧ Names H') rfl rfl rfl (by
    show W Tryz.call _ _ _ _ _
    simp only [Tryz.fn8, Tryz.fn8_r0, AmR, kp, exe, number, Arg.val, Env.at, lk, putd, ok1, Option.getD_some, if_true, if_false, reduceCtorEq]
    simp only [Tryz.fn8_r1, e1, AmR, kp, pushA, exe, Arg.val, Env.at, lk, putd, ok1, okM, abin, Option.getD_some, if_true, if_false, reduceCtorEq, Nat.reduceEqDiff, decide_false]
    simp only [Tryz.fn8_r3, AmR, kp, exe, Arg.val, Env.at, lk, putd, ok1, Option.getD_some, if_true, if_false, reduceCtorEq, Nat.reduceEqDiff]
    simp only [Tryz.fn8_r4, AmR, kp, exe, Arg.val, Env.at, lk, putd, ok1, Option.getD_some, if_true, if_false, reduceCtorEq, Nat.reduceEqDiff]
    refine Tryz.rowsLoop s H.next H _ _ _ rfl s.length s [] .nils H (Nat.le_refl _) (by simp; omega) ⟨Nat.le_refl _, hfl, .inl ⟨rfl, rfl⟩⟩ (Kept.refl _ _) hN (fun hr v' H' w w' k1 k2 k3 => ?_) fun hr e H' k2 k3 h2 h3 => ?_
    · rw [List.nil_append] at k1
      obtain ⟨b1, b2⟩ := rows_bound hs
      have hE : rowsE s = if tableE ((linesL s).1.map cellsL) = 0 ∧ tableT ((linesL s).1.map cellsL) = s then 0 else 4 := by
        unfold rowsE; rw [if_pos (by omega)]; simp only [hr, true_and]
      have hS : rowsS s = if rowsE s = 0 then (linesL s).1.map cellsL else [] := rfl
      generalize (linesL s).1.map cellsL = rows at *
      obtain ⟨H2, c1, c2, c3⟩ := Tryz.table H' k3 (by have := k2.1; have := k2.2.1; have := k1.1; omega) v' rows k1.tab b2 (by omega)
      have kk := k2.trans (Kept.trans (m := H.next) (Kept.refl _ _) ⟨c2.1, c2.2.1, fun i hi => c2.2.2 i (by have := k2.2.1; omega)⟩)
      simp only [Tryz.fn8_r11, c1, AmR, kp, exe, Arg.val, Env.at, lk, putd, ok1, okM, Option.getD_some, if_true, if_false, List.getElem?_cons_zero, List.getElem?_cons_succ, reduceCtorEq, Nat.reduceEqDiff, List.map_cons, List.map_nil]
      by_cases hok : tableE rows = 0
      · have f1 : (tableE rows = 0) = True := eq_true hok
        have hTS : tableS rows = tableT rows := by unfold tableS; rw [if_pos hok]
        by_cases hsame : tableT rows = s
        · have f2 : (tableS rows = s) = True := eq_true (by rw [hTS, hsame])
          rw [if_pos ⟨hok, hsame⟩] at hE
          rw [if_pos hE] at hS
          simp only [Tryz.fn8_r12, f1, f2, false_implies, not_true_eq_false, true_implies, and_true, AmR, Cd_nbeq, Rf_bne, kp, pushA, exe, Arg.val, Env.at, lk, putd, ok1, okM, abin, Option.getD_some, if_true, if_false, reduceCtorEq, Nat.reduceEqDiff, Bool.false_eq_true, and_true]
          simp only [Tryz.fn8_r14, endK_ret, AmR, kp, exe, Arg.val, Env.at, lk, putd, ok1, Option.getD_some, if_true, if_false, Nat.reduceEqDiff, resAll, resOf, Option.some.injEq, List.cons.injEq, AV.int.injEq, and_true, true_and, and_assoc, exists_eq_left']
          exact ⟨by rw [hE], by rw [hS]; exact k1.tab.old c2.2.1 c2.2.2, kk, c3⟩
        · have f2 : (tableS rows = s) = False := eq_false (by rw [hTS]; exact hsame)
          rw [if_neg (fun h => hsame h.2)] at hE
          rw [if_neg (by rw [hE]; simp)] at hS
          simp only [Tryz.fn8_r12, f1, f2, false_implies, not_false_eq_true, not_true_eq_false, true_implies, true_and, and_true, AmR, Cd_nbeq, Rf_bne, kp, pushA, exe, Arg.val, Env.at, lk, putd, ok1, okM, abin, Option.getD_some, if_true, if_false, reduceCtorEq, Nat.reduceEqDiff, Bool.false_eq_true, and_true, true_and]
          simp only [Tryz.fn8_r13, endK_ret, AmR, kp, exe, Arg.val, Env.at, lk, putd, ok1, Option.getD_some, if_true, if_false, Nat.reduceEqDiff, resAll, resOf, Option.some.injEq, List.cons.injEq, AV.int.injEq, and_true, true_and, and_assoc, exists_eq_left']
          exact ⟨by rw [hE], by rw [hS]; exact ⟨fun _ _ _ _ _ e => (by cases e), [], rfl, .nil, fun i u r hu => by simp at hu⟩, kk, c3⟩
      · have f1 : (tableE rows = 0) = False := eq_false hok
        rw [if_neg (fun h => hok h.1)] at hE
        rw [if_neg (by rw [hE]; simp)] at hS
        simp only [Tryz.fn8_r12, f1, false_implies, not_false_eq_true, true_implies, true_and, AmR, Cd_nbeq, Rf_bne, kp, pushA, exe, Arg.val, Env.at, lk, putd, ok1, okM, abin, Option.getD_some, if_true, if_false, reduceCtorEq, Nat.reduceEqDiff, Bool.false_eq_true, true_and]
        simp only [Tryz.fn8_r13, endK_ret, AmR, kp, exe, Arg.val, Env.at, lk, putd, ok1, Option.getD_some, if_true, if_false, Nat.reduceEqDiff, resAll, resOf, Option.some.injEq, List.cons.injEq, AV.int.injEq, and_true, true_and, and_assoc, exists_eq_left']
        exact ⟨by rw [hE], by rw [hS]; exact ⟨fun _ _ _ _ _ e => (by cases e), [], rfl, .nil, fun i u r hu => by simp at hu⟩, kk, c3⟩
    · have hE : rowsE s = 4 := by unfold rowsE; rw [if_pos (by omega), if_neg (fun h => hr h.1)]
      have hS : rowsS s = [] := by unfold rowsS; rw [if_neg (by rw [hE]; simp)]
      simp only [Rt_code, Rt_nil, endK_ret, resAll, resOf, h2, h3, Option.some.injEq, exists_eq_left']
      exact ⟨.nils, by rw [hE], by rw [hS]; exact ⟨fun _ _ _ _ _ e => (by cases e), [], rfl, .nil, fun i u r hu => by simp at hu⟩, k2, k3⟩)
  exact ⟨v, H', hc, h1, h2, h3⟩

end Go.Am

/- The reference's Rows, and the law of rows. Conditions: those that each theorem names. -/
namespace Go.Am

theorem linesR_len (s : List UInt8) : (linesR s).length ≤ s.length ∧ ∀ l ∈ linesR s, l.length ≤ s.length := by
  obtain ⟨h1, h2⟩ := linesL_len s
  unfold linesR
  split
  · rw [List.append_nil]; exact ⟨by omega, h2⟩
  · rename_i h
    have h3 : 0 < (linesL s).2.length := List.length_pos_iff.2 h
    refine ⟨by rw [List.length_append]; simp only [List.length_cons, List.length_nil]; omega, fun l hl => ?_⟩
    rcases List.mem_append.1 hl with hl | hl
    · exact h2 l hl
    · rw [List.mem_singleton.1 hl]; omega

theorem rowsR_bound {s : List UInt8} (hs : s.length ≤ 3000000) : ((linesR s).map cellsL).length ≤ 3000000 ∧ ∀ r ∈ (linesR s).map cellsL, r.length ≤ 4000000 ∧ ∀ x ∈ r, x.length ≤ 4000000 := by
  obtain ⟨h1, h2⟩ := linesR_len s
  refine ⟨by rw [List.length_map]; omega, fun r hr => ?_⟩
  obtain ⟨l, hl, rfl⟩ := List.mem_map.1 hr
  have h3 := h2 l hl
  obtain ⟨h4, h5⟩ := cellsF_len l.length l
  exact ⟨by show (cellsF l.length l).length ≤ _; omega, fun x hx => by have := h5 x hx; omega⟩

end Go.Am

/- The same rows; the law of rows. Conditions: those that each theorem names. -/
namespace Go.Am

theorem Tryz.sameIn (n : Nat) (H : AH) (hNm : Names H) (v v' : AV) (rows : List (List (List UInt8))) (hv : TabV n H v rows) (hv' : TabV n H v' rows) (hil : rows.length ≤ 4000000) (i : Nat) (r : List (List UInt8)) (hr : rows[i]? = some r) (hrl : r.length ≤ 4000000) (K : AX → St → Prop) (ks : List Fr) (L : ACode) (hL : L = .loop (some [0, 1, 5, 6]) Tryz.fn9_l0) :
    ∀ (m k : Nat), m + k = r.length → (∀ a b, Nx Tryz.call K ks [(35, .bool false), (0, v), (1, v'), (5, .int .i64 i), (6, a), (35, b)] H) →
      W Tryz.call K (.block 2 :: ks) [(0, v), (1, v'), (5, .int .i64 i), (6, .int .i64 k)] H L := by
  have hnew := hNm.new
  have hN : ∀ nx fl j, (AH.mk H.blks nx fl).get j = H.get j := fun _ _ _ => rfl
  obtain ⟨q, o, c, b, u, e1, e2, e3, hu⟩ := hv.row hr
  obtain ⟨q', o', c', b', u', f1, f2, f3, hu'⟩ := hv'.row hr
  subst e1; subst f1
  have hil' : i < rows.length := (List.getElem?_eq_some_iff.1 hr).1
  have hi0 : (0 : Int) ≤ (i : Int) := by omega
  have hi1 : ((i : Int) < (rows.length : Int)) = True := eq_true (by omega)
  have hul := hu.lenS
  intro m
  induction m with
  | zero =>
    intro k hk hd
    refine W_loopN hL ?_
    have hk' : k = r.length := by omega
    subst hk'
    have hlt : ((r.length : Int) < (r.length : Int)) = False := eq_false (by omega)
    simp only [Tryz.fn9_l0, Tryz.fn9_r8, hi0, hi1, e2, e3, hul, Int.toNat_natCast, hlt, and_self, AmR, kp, pushA, exe, Arg.val, Env.at, lk, putd, ok1, okM, abin, Option.getD_some, if_true, if_false, reduceCtorEq, Nat.reduceEqDiff, decide_false, Option.map_some, ↓exe_lenl]
    exact hd _ _
  | succ m ih =>
    intro k hk hd
    refine W_loopN hL ?_
    have hs : r[k]? = some r[k] := List.getElem?_eq_getElem (by omega)
    obtain ⟨q2, o2, c2, b2, u1, u2, u3⟩ := hu.cell hs
    obtain ⟨q3, o3, c3, b3, w1, w2, w3⟩ := hu'.cell hs
    generalize r[k] = s at *
    have hk0 : (0 : Int) ≤ (k : Int) := by omega
    have hk1 : ((k : Int) < (r.length : Int)) = True := eq_true (by omega)
    have hw := succ_wrap (i := k) (by omega)
    simp only [Tryz.fn9_l0, Tryz.fn9_r8, hi0, hi1, e2, e3, hul, Int.toNat_natCast, hk1, and_self, AmR, kp, pushA, exe, Arg.val, Env.at, lk, putd, ok1, okM, abin, Option.getD_some, if_true, if_false, reduceCtorEq, Nat.reduceEqDiff, decide_true, Option.map_some, ↓exe_lenl]
    refine W_drawn' (by kernel_rfl) ?_
    rw [u1] at e3
    rw [w1] at f3
    simp only [Tryz.fn9_r9, Tryz.fn9_r9a, Tryz.fn9_r9b, hN, hi0, hi1, hk0, hk1, e2, e3, f2, f3, u2, u3, w2, w3, hnew, Int.toNat_natCast, and_self, AmR, Cd_nbeq, kp, pushA, exe, Arg.val, Env.at, lk, putd, ok1, okM, abin, Option.getD_some, if_true, if_false, reduceCtorEq, Nat.reduceEqDiff, Nat.reduceAdd, true_and, List.nil_append, visH, List.filter_nil, List.flatMap_nil, List.contains_cons, List.contains_nil, Bool.or_false]
    simp only [Tryz.fn9_r11, hw, AmR, kp, exe, Arg.val, Env.at, lk, putd, ok1, okM, abin, Option.getD_some, if_true, if_false, reduceCtorEq, Nat.reduceEqDiff]
    exact ⟨fun _ => ih (k + 1) (by omega) hd, fun h => absurd trivial h⟩

theorem Tryz.sameOut (n : Nat) (H : AH) (hNm : Names H) (v v' : AV) (rows : List (List (List UInt8))) (hv : TabV n H v rows) (hv' : TabV n H v' rows) (hil : rows.length ≤ 4000000) (hs : ∀ r ∈ rows, r.length ≤ 4000000) (K : AX → St → Prop) (ks : List Fr) (L : ACode) (hL : L = .loop (some [0, 1, 5]) Tryz.fn9_l1) :
    ∀ (m i : Nat), m + i = rows.length → (∀ a b, Nx Tryz.call K ks [(15, .bool false), (0, v), (1, v'), (5, a), (15, b)] H) →
      W Tryz.call K (.block 0 :: ks) [(0, v), (1, v'), (5, .int .i64 i)] H L := by
  have hnew := hNm.new
  have hN : ∀ nx fl j, (AH.mk H.blks nx fl).get j = H.get j := fun _ _ _ => rfl
  have hvl := hv.lenS
  intro m
  induction m with
  | zero =>
    intro i hi hd
    refine W_loopN hL ?_
    have hi' : i = rows.length := by omega
    subst hi'
    have hlt : ((rows.length : Int) < (rows.length : Int)) = False := eq_false (by omega)
    simp only [Tryz.fn9_l1, Tryz.fn9_r4, hvl, hlt, AmR, kp, pushA, exe, Arg.val, Env.at, lk, putd, ok1, okM, abin, Option.getD_some, if_true, if_false, reduceCtorEq, Nat.reduceEqDiff, decide_false, Option.map_some, ↓exe_lenl]
    exact hd _ _
  | succ m ih =>
    intro i hi hd
    refine W_loopN hL ?_
    have hr : rows[i]? = some rows[i] := List.getElem?_eq_getElem (by omega)
    have hrl := hs _ (List.mem_of_getElem? hr)
    have hin := Tryz.sameIn n H hNm v v' rows hv hv' hil i rows[i] hr hrl
    obtain ⟨q, o, c, b, u, e1, e2, e3, hu⟩ := hv.row hr
    obtain ⟨q', o', c', b', u', f1, f2, f3, hu'⟩ := hv'.row hr
    generalize rows[i] = r at *
    have hi0 : (0 : Int) ≤ (i : Int) := by omega
    have hi1 : ((i : Int) < (rows.length : Int)) = True := eq_true (by omega)
    have hul := hu.lenS
    have hul' := hu'.lenS
    have hw := succ_wrap (i := i) (by omega)
    subst e1; subst f1
    simp only [Tryz.fn9_l1, Tryz.fn9_r4, hvl, hi1, AmR, kp, pushA, exe, Arg.val, Env.at, lk, putd, ok1, okM, abin, Option.getD_some, if_true, if_false, reduceCtorEq, Nat.reduceEqDiff, decide_true, Option.map_some, ↓exe_lenl]
    refine W_drawn' (by kernel_rfl) ?_
    simp only [Tryz.fn9_r5, Tryz.fn9_r5a, hN, hi0, hi1, e2, e3, f2, f3, hul, hul', hnew, Int.toNat_natCast, and_self, bne_self_eq_false, AmR, kp, pushA, exe, Arg.val, Env.at, lk, putd, ok1, okM, abin, Option.getD_some, if_true, if_false, reduceCtorEq, Nat.reduceEqDiff, Nat.reduceAdd, true_and, List.nil_append, visH, List.filter_nil, List.flatMap_nil, List.contains_cons, List.contains_nil, Bool.or_false, Option.map_some, bne_self_eq_false, ↓exe_lenl]
    simp only [Tryz.fn9_r7, AmR, kp, exe, Arg.val, Env.at, lk, putd, ok1, Option.getD_some, if_true, if_false, reduceCtorEq, Nat.reduceEqDiff]
    refine hin K _ _ rfl r.length 0 (by omega) fun a b' => ?_
    simp only [Tryz.fn9_r12, hw, AmR, kp, exe, Arg.val, Env.at, lk, putd, ok1, okM, abin, Option.getD_some, if_true, if_false, reduceCtorEq, Nat.reduceEqDiff]
    exact ih (i + 1) (by omega) hd

theorem Tryz.sameRows (n : Nat) (H : AH) (hNm : Names H) (v v' : AV) (rows : List (List (List UInt8))) (hv : TabV n H v rows) (hv' : TabV n H v' rows) (hil : rows.length ≤ 4000000) (hs : ∀ r ∈ rows, r.length ≤ 4000000) :
    Tryz.call 9 [v, v'] H = some (.ok (.bool true), H) := by
  have hvl := hv.lenS
  have hvl' := hv'.lenS
  refine ecall_W 8 [] _ _ (out := [.bool true]) rfl rfl rfl ?_
  show W Tryz.call _ _ _ _ _
  simp only [Tryz.fn9, Tryz.fn9_r0, AmR, kp, exe, number, Arg.val, Env.at, lk, putd, ok1, Option.getD_some, if_true, if_false, reduceCtorEq, Nat.reduceEqDiff, Nat.reduceAdd]
  simp only [Tryz.fn9_r1, hvl, hvl', bne_self_eq_false, AmR, kp, pushA, exe, Arg.val, Env.at, lk, putd, ok1, okM, abin, Option.getD_some, if_true, if_false, reduceCtorEq, Nat.reduceEqDiff, Option.map_some, bne_self_eq_false, ↓exe_lenl]
  simp only [Tryz.fn9_r3, AmR, kp, exe, Arg.val, Env.at, lk, putd, ok1, Option.getD_some, if_true, if_false, reduceCtorEq, Nat.reduceEqDiff]
  refine Tryz.sameOut n H hNm v v' rows hv hv' hil hs _ _ _ rfl rows.length 0 (by omega) fun a b => ?_
  simp only [Tryz.fn9_r13, exactK_ret, AmR, kp, exe, Arg.val, Env.at, lk, putd, ok1, Option.getD_some, if_true, if_false, reduceCtorEq, Nat.reduceEqDiff, resAll, resOf, and_true]

end Go.Am
