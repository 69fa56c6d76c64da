/-
The reference's Table. Conditions: those that each theorem names.
-/
import Derived.Test.YtolilamofgildaaDoorAmH
set_option linter.unusedSimpArgs false
set_option linter.unusedVariables false
namespace Go.Am

theorem Tryd.refCells (n : Nat) (H : AH) (v : AV) (rows : List (List (List UInt8))) (hv : TabV n H v rows) (i : Nat) (r : List (List UInt8)) (hr : rows[i]? = some r) (hs : ∀ s ∈ r, s.length ≤ 4000000) (hrl : r.length ≤ 4000000) (hil : rows.length ≤ 4000000) (K : AX → St → Prop) (ks : List Fr) (L : ACode) (hL : L = .loop (some [0, 4, 5]) Tryd.fn11_l2) :
    ∀ (m k : Nat), m + k = r.length → ((r.drop k).all cellB = true → ∀ a b, Nx Tryd.call K ks [(40, .bool false), (0, v), (4, .int .i64 i), (5, a), (40, b)] H) →
      ((r.drop k).all cellB = false → ∀ e, e.at 2 = .str [] → e.at 3 = .int .i64 1 → Rt Tryd.call K ks e H) →
      W Tryd.call K (.block 2 :: ks) [(0, v), (4, .int .i64 i), (5, .int .i64 k)] H L := by
  obtain ⟨q, o, c, b, u, e1, e2, e3, hu⟩ := hv.row hr
  have hul := hu.lenS
  have hi0 : (0 : Int) ≤ (i : Int) := by omega
  have hilt : i < rows.length := by
    by_cases hlt : i < rows.length
    · exact hlt
    · rw [List.getElem?_eq_none (by omega)] at hr; cases hr
  have hi1 : ((i : Int) < (rows.length : Int)) = True := eq_true (by omega)
  subst e1
  intro m
  induction m with
  | zero =>
    intro k hk hd hf
    refine W_loopN hL ?_
    have hk' : k = r.length := by omega
    subst hk'
    simp only [Tryd.fn11_l2, Tryd.fn11_r6, hi0, hi1, e2, e3, hul, Int.toNat_natCast, and_self, AmR, kp, pushA, exe, Arg.val, Env.at, lk, putd, ok1, okM, abin, Option.getD_some, if_true, if_false, reduceCtorEq, Nat.reduceEqDiff, Option.map_some, ↓exe_lenl]
    exact ⟨fun h => absurd h (by omega), fun _ => hd (by simp) _ _⟩
  | succ m ih =>
    intro k hk hd hf
    refine W_loopN hL ?_
    have hkl : k < r.length := by omega
    have hsk : r[k]? = some r[k] := List.getElem?_eq_getElem hkl
    obtain ⟨q2, o2, c2, b2, u1, u2, u3⟩ := hu.cell hsk
    have hsm := hs _ (List.mem_of_getElem? hsk)
    rw [drop_cons' hsk, List.all_cons] at hd hf
    generalize r[k] = s at *
    have hk0 : (0 : Int) ≤ (k : Int) := by omega
    have hk1 : ((k : Int) < (r.length : Int)) = True := eq_true (by omega)
    have hw := succ_wrap (i := k) (by omega)
    have hcl := Tryd.cellRef s hsm
    subst u1
    simp only [Tryd.fn11_l2, Tryd.fn11_r6, hi0, hi1, e2, e3, hul, hk1, Int.toNat_natCast, and_self, AmR, kp, pushA, exe, Arg.val, Env.at, lk, putd, ok1, okM, abin, Option.getD_some, if_true, if_false, reduceCtorEq, Nat.reduceEqDiff, decide_true, Option.map_some, ↓exe_lenl]
    simp only [Tryd.fn11_r7, hi0, hi1, e2, e3, hk0, hk1, u2, u3, hcl, Int.toNat_natCast, and_self, AmR, kp, exe, Arg.val, Env.at, lk, putd, ok1, okM, Option.getD_some, if_true, if_false, reduceCtorEq, Nat.reduceEqDiff, aun, List.map_cons, List.map_nil]
    cases hcb : cellB s with
    | false =>
      simp only [Tryd.fn11_r8, AmR, kp, pushA, exe, Arg.val, Env.at, lk, putd, ok1, Option.getD_some, if_true, if_false, Bool.not_false, reduceCtorEq, Nat.reduceEqDiff]
      exact hf (by rw [hcb]; rfl) _ rfl rfl
    | true =>
      simp only [Tryd.fn11_r9, hw, AmR, kp, pushA, exe, Arg.val, Env.at, lk, putd, ok1, okM, abin, Option.getD_some, if_true, if_false, Bool.not_true, reduceCtorEq, Nat.reduceEqDiff]
      exact ih (k + 1) (by omega) (fun h => hd (by rw [hcb, h]; rfl)) fun h => hf (by rw [hcb, h]; rfl)

theorem Tryd.refRows (n : Nat) (H : AH) (hNm : Names H) (v : AV) (rows : List (List (List UInt8))) (hv : TabV n H v rows) (r0 : List (List UInt8)) (hr0 : rows[0]? = some r0) (hs : ∀ r ∈ rows, r.length ≤ 4000000 ∧ ∀ s ∈ r, s.length ≤ 4000000) (hil : rows.length ≤ 4000000) (K : AX → St → Prop) (ks : List Fr) (L : ACode) (hL : L = .loop (some [0, 4]) Tryd.fn11_l3) :
    ∀ (m i : Nat), m + i = rows.length → ((rows.drop i).all (rowB r0.length) = true → ∀ a b, Nx Tryd.call K ks [(13, .bool false), (0, v), (4, a), (13, b)] H) →
      ((rows.drop i).all (rowB r0.length) = false → ∀ e, e.at 2 = .str [] → e.at 3 = .int .i64 1 → Rt Tryd.call K ks e H) →
      W Tryd.call K (.block 0 :: ks) [(0, v), (4, .int .i64 i)] H L := by
  have hvl := hv.lenS
  have hnew := hNm.new
  have hN : ∀ nx fl j, (AH.mk H.blks nx fl).get j = H.get j := fun _ _ _ => rfl
  obtain ⟨q, o, c, b, u0, e1, e2, e30, hu0⟩ := hv.row hr0
  have hul0 := hu0.lenS
  have he3 : b.cells[o + 0 * 1]? = some u0 := e30
  intro m
  induction m with
  | zero =>
    intro i hi hd hf
    refine W_loopN hL ?_
    have hi' : i = rows.length := by omega
    subst hi'
    simp only [Tryd.fn11_l3, Tryd.fn11_r2, hvl, AmR, kp, pushA, exe, Arg.val, Env.at, lk, putd, ok1, okM, abin, Option.getD_some, if_true, if_false, reduceCtorEq, Nat.reduceEqDiff, Option.map_some, ↓exe_lenl]
    exact ⟨fun h => absurd h (by omega), fun _ => hd (by simp) _ _⟩
  | succ m ih =>
    intro i hi hd hf
    refine W_loopN hL ?_
    have hilt : i < rows.length := by omega
    have hr : rows[i]? = some rows[i] := List.getElem?_eq_getElem hilt
    have hsr := hs _ (List.mem_of_getElem? hr)
    rw [drop_cons' hr, List.all_cons] at hd hf
    obtain ⟨q', o', c', b', u, f1, f2, e3, hu⟩ := hv.row hr
    rw [e1] at f1
    simp only [AV.sl.injEq, true_and] at f1
    obtain ⟨rfl, rfl, rfl⟩ := f1
    rw [e2, Option.some.injEq] at f2
    subst f2
    have hin := Tryd.refCells n H v rows hv i rows[i] hr hsr.2 hsr.1 hil
    generalize rows[i] = r at *
    have hul := hu.lenS
    have hi0 : (0 : Int) ≤ (i : Int) := by omega
    have hi1 : ((i : Int) < (rows.length : Int)) = True := eq_true (by omega)
    have h00 : (0 : Int) ≤ 0 := Int.le_refl 0
    have h01 : ((0 : Int) < (rows.length : Int)) = True := eq_true (by omega)
    have hwi := succ_wrap (i := i) (by omega)
    have rest : r ≠ [] → r.length = r0.length → W Tryd.call K (.block 1 :: .code (.seq (.reg Tryd.fn11_r10) (.trim [0, 4])) :: .code L :: .block 0 :: ks) [(0, v), (4, .int .i64 i), (5, .int .i64 0)] H (.block 2 (.loop (some [0, 4, 5]) Tryd.fn11_l2)) := by
      intro hne hrn
      have hrb : rowB r0.length r = r.all cellB := by
        have : (r != []) = true := by simpa using hne
        simp only [rowB, this, hrn, beq_self_eq_true, Bool.true_and]
      rw [hrb] at hd hf
      simp only [W_block]
      refine hin K _ _ rfl r.length 0 (by omega) (fun h a b' => ?_) fun h e h2 h3 => ?_
      · rw [List.drop_zero] at h
        simp only [Tryd.fn11_r10, hwi, AmR, kp, exe, Arg.val, Env.at, lk, putd, ok1, okM, abin, Option.getD_some, if_true, if_false, reduceCtorEq, Nat.reduceEqDiff]
        exact ih (i + 1) (by omega) (fun h' => hd (by rw [h, h']; rfl)) fun h' => hf (by rw [h, h']; rfl)
      · rw [List.drop_zero] at h
        simp only [Rt_block, Rt_code]
        exact hf (by rw [h]; rfl) e h2 h3
    have hvs := e1
    rw [e1] at hvl rest ⊢
    simp only [Tryd.fn11_l3, Tryd.fn11_r2, hvl, hi1, AmR, kp, pushA, exe, Arg.val, Env.at, lk, putd, ok1, okM, abin, Option.getD_some, if_true, if_false, reduceCtorEq, Nat.reduceEqDiff, decide_true, Option.map_some, ↓exe_lenl]
    refine W_drawn' (by kernel_rfl) ?_
    by_cases h0 : r.length = 0
    · have c0 : ((r.length : Int) == 0) = true := by rw [h0]; rfl
      have hrb : rowB r0.length r = false := by
        have : r = [] := List.length_eq_zero_iff.1 h0
        subst this; rfl
      simp only [Tryd.fn11_r3, Tryd.fn11_r3a, Tryd.fn11_r3b, hi0, hi1, e2, e3, hul, c0, Int.toNat_natCast, and_self, AmR, kp, pushA, exe, Arg.val, Env.at, lk, putd, ok1, okM, abin, Option.getD_some, if_true, if_false, reduceCtorEq, Nat.reduceEqDiff, Nat.reduceAdd, true_and, List.nil_append, visH, List.flatMap_nil, Option.map_some, ↓exe_lenl]
      simp only [Tryd.fn11_r4, AmR, kp, exe, Arg.val, Env.at, lk, putd, ok1, Option.getD_some, if_true, if_false, reduceCtorEq, Nat.reduceEqDiff]
      exact hf (by rw [hrb]; rfl) _ rfl rfl
    · have c0 : ((r.length : Int) == 0) = false := beq_eq_false_iff_ne.2 (by omega)
      by_cases h1 : r.length = r0.length
      · have c1 : ((r.length : Int) != (r0.length : Int)) = false := by rw [h1]; simp
        have hne : r ≠ [] := fun e => by subst e; simp at h0
        simp only [Tryd.fn11_r3, Tryd.fn11_r3a, Tryd.fn11_r3b, hN, hi0, hi1, h00, h01, e2, e3, he3, hul, hul0, hnew, c0, c1, Int.toNat_natCast, Int.toNat_zero, and_self, AmR, kp, pushA, exe, Arg.val, Env.at, lk, putd, ok1, okM, abin, Option.getD_some, if_true, if_false, reduceCtorEq, Nat.reduceEqDiff, Nat.reduceAdd, Nat.reduceMul, Bool.false_eq_true, true_and, List.nil_append, visH, List.filter_nil, List.flatMap_nil, List.contains_cons, List.contains_nil, Bool.or_false, Option.map_some, ↓exe_lenl]
        have hre := rest hne h1
        simp only [W_block] at hre
        simp only [Tryd.fn11_r5, AmR, kp, exe, Arg.val, Env.at, lk, putd, ok1, Option.getD_some, if_true, if_false, reduceCtorEq, Nat.reduceEqDiff]
        exact hre
      · have c1 : ((r.length : Int) != (r0.length : Int)) = true := by simp; omega
        have hrb : rowB r0.length r = false := by simp only [rowB, beq_eq_false_iff_ne.2 h1, Bool.and_false, Bool.false_and]
        simp only [Tryd.fn11_r3, Tryd.fn11_r3a, Tryd.fn11_r3b, hN, hi0, hi1, h00, h01, e2, e3, he3, hul, hul0, hnew, c0, c1, Int.toNat_natCast, Int.toNat_zero, and_self, AmR, kp, pushA, exe, Arg.val, Env.at, lk, putd, ok1, okM, abin, Option.getD_some, if_true, if_false, reduceCtorEq, Nat.reduceEqDiff, Nat.reduceAdd, Nat.reduceMul, Bool.false_eq_true, true_and, List.nil_append, visH, List.filter_nil, List.flatMap_nil, List.contains_cons, List.contains_nil, Bool.or_false, Option.map_some, ↓exe_lenl]
        simp only [Tryd.fn11_r4, AmR, kp, exe, Arg.val, Env.at, lk, putd, ok1, Option.getD_some, if_true, if_false, reduceCtorEq, Nat.reduceEqDiff]
        exact hf (by rw [hrb]; rfl) _ rfl rfl

/-- A row of bytes of one's own that holds b, at a name from lo on. -/
def ByV (lo : Nat) (H : AH) (v : AV) (b : List UInt8) : Prop := ∃ q c, v = .sl q 0 1 b.length c ∧ lo ≤ q ∧ lo ≤ H.next ∧ Own H 5 1 q b.length c (ofBytes b)

theorem ByV.app {lo : Nat} {H : AH} {v : AV} {b : List UInt8} (h : ByV lo H v b) (t : List UInt8) (ht : t ≠ []) (hl : b.length + t.length ≤ 70368744177664) :
    ∃ v' H', aapp H 5 1 1 v (ofBytes t) = some (.ok v', H') ∧ ByV lo H' v' (b ++ t) ∧ Kept lo H H' ∧ (Names H → Names H') := by
  obtain ⟨q, c, rfl, hq, hn, ho⟩ := h
  obtain ⟨q', H', a1, a2, a3, a4⟩ := ho.app 1 (new := ofBytes t) (m := t.length) (by cases t with | nil => exact absurd rfl ht | cons => simp [ofBytes]) (by simp [ofBytes]) (by omega)
  rw [ofBytes_append] at a2
  refine ⟨_, H', a1, ⟨q', none, by rw [List.length_append], by omega, by have := a3.2.1; omega, by rw [List.length_append]; exact a2⟩, ⟨a3.1, a3.2.1, fun i hi => a3.2.2 i (by omega) (by omega)⟩, fun hN => aapp_names hN a1⟩
theorem ByV.push {lo : Nat} {H : AH} {v : AV} {b : List UInt8} (h : ByV lo H v b) (ty : TypeId) (wh : Bool) (cs : List AV) : ByV lo (H.push ty wh cs) v b := by
  obtain ⟨q, c, rfl, hq, hn, ho⟩ := h
  exact ⟨q, c, rfl, hq, Nat.le_succ_of_le hn, ho.push _ _ _⟩
theorem ByV.lenS {lo : Nat} {H : AH} {v : AV} {b : List UInt8} (h : ByV lo H v b) : lenS v = some b.length := by
  obtain ⟨q, c, rfl, _⟩ := h; rfl
theorem ByV.bytes {lo : Nat} {H : AH} {v : AV} {b : List UInt8} (h : ByV lo H v b) : takeFrom H 1 v = some (ofBytes b) := by
  obtain ⟨q, c, rfl, _, _, ho⟩ := h
  simp only [takeFrom, if_true]
  exact ho.cells
theorem exe_b2s {lo : Nat} {H : AH} {v : AV} {b : List UInt8} (h : ByV lo H v b) (call : Call) (e : Env) (x : Arg) (hx : x.val e = v) : exe call e (.b2s x) H = ok1 H (.str b) := by
  have hb := h.bytes
  obtain ⟨q, c, rfl, _⟩ := h
  simp only [exe, hx, hb, toBytes_of, Option.map_some, okM]
  rfl

theorem Tryd.refIn (lo : Nat) (H0 : AH) (n : Nat) (hn : n ≤ lo) (v wv : AV) (w : List Nat) (hw : WidV H0 wv w) (hwn : ∀ i o z m c, wv = .sl i o z m c → i < lo) (hwb : ∀ x ∈ w, x ≤ 4000000) (rows : List (List (List UInt8))) (hv : TabV n H0 v rows) (i : Nat) (r : List (List UInt8)) (hr : rows[i]? = some r) (hs : ∀ s ∈ r, s ≠ [] ∧ s.length ≤ 4000000) (hrl : r.length ≤ 4000000) (hil : rows.length ≤ 4000000) (hfw : fitsW w r) (T rest : Nat) (hrest : 1 ≤ rest) (K : AX → St → Prop) (ks : List Fr) (L : ACode) (hL : L = .loop (some [0, 6, 7, 8, 9]) Tryd.fn11_l0) :
    ∀ (m k : Nat) (b : List UInt8) (ov : AV) (H : AH), m + k = r.length → ByV lo H ov b → Kept lo H0 H → Names H → (b ++ rowTxt (w.drop k) (r.drop k)).length + rest = T → fitsW (w.drop k) (r.drop k) → (0 < k → b.length < 1048576) → b.length ≤ 1048576 →
      (∀ H' ov' x y, ByV lo H' ov' (b ++ rowTxt (w.drop k) (r.drop k)) → Kept lo H0 H' → Names H' → (0 < r.length → (b ++ rowTxt (w.drop k) (r.drop k)).length < 1048576) → Nx Tryd.call K ks [(67, .bool false), (0, v), (6, wv), (7, ov'), (8, .int .i64 i), (9, x), (67, y)] H') →
      (∀ e H', Kept lo H0 H' → Names H' → 1048576 < T → e.at 2 = .str [] → e.at 3 = .int .i64 6 → Rt Tryd.call K ks e H') →
      W Tryd.call K (.block 6 :: ks) [(0, v), (6, wv), (7, ov), (8, .int .i64 i), (9, .int .i64 k)] H L := by
  have hwr := fitsW_len hfw
  have hilt : i < rows.length := by
    by_cases hlt : i < rows.length
    · exact hlt
    · rw [List.getElem?_eq_none (by omega)] at hr; cases hr
  intro m
  induction m with
  | zero =>
    intro k b ov H hk hb hK hN hT hft hb1 hb2 hd hf
    refine W_loopN hL ?_
    have hk' : k = r.length := by omega
    subst hk'
    have e0 : rowTxt (w.drop r.length) (r.drop r.length) = [] := by rw [List.drop_length]; cases w.drop r.length <;> rfl
    rw [e0, List.append_nil] at hd
    have hwl : lenS wv = some w.length := hw.lenS
    have hlt : ((r.length : Int) < (w.length : Int)) = False := eq_false (by omega)
    simp only [Tryd.fn11_l0, Tryd.fn11_r18, hwl, hlt, AmR, kp, pushA, exe, Arg.val, Env.at, lk, putd, ok1, okM, abin, Option.getD_some, if_true, if_false, reduceCtorEq, Nat.reduceEqDiff, decide_false, Option.map_some, ↓exe_lenl]
    exact hd H ov _ _ hb hK hN hb1
  | succ m ih =>
    intro k b ov H hk hb hK hN hT hft hb1 hb2 hd hf
    refine W_loopN hL ?_
    have hkl : k < r.length := by omega
    have hsk : r[k]? = some r[k] := List.getElem?_eq_getElem hkl
    have hwk : w[k]? = some w[k] := List.getElem?_eq_getElem (by omega)
    have hwm := hwb _ (List.mem_of_getElem? hwk)
    have hvH : TabV n H v rows := hv.old (Nat.le_refl _) fun i hi => hK.2.2 i (by omega)
    have hwH : WidV H wv w := hw.old hwn hK.2.2
    obtain ⟨q, o, c, bk, u, e1, e2, e3, hu⟩ := hvH.row hr
    obtain ⟨q2, o2, c2, b2, u1, u2, u3⟩ := hu.cell hsk
    obtain ⟨hsne, hsm⟩ := hs _ (List.mem_of_getElem? hsk)
    rw [drop_cons' hsk, drop_cons' hwk] at hft hT hd
    rw [rowTxt_cons, ← List.append_assoc] at hT hd
    have hfs : r[k].length ≤ w[k] := hft.1
    generalize r[k] = s at *
    generalize w[k] = wk at *
    have hi0 : (0 : Int) ≤ (i : Int) := by omega
    have hi1 : ((i : Int) < (rows.length : Int)) = True := eq_true (by omega)
    have hk0 : (0 : Int) ≤ (k : Int) := by omega
    have hk1 : ((k : Int) < (r.length : Int)) = True := eq_true (by omega)
    have hkw : ((k : Int) < (w.length : Int)) = True := eq_true (by omega)
    have hwl : lenS wv = some w.length := hw.lenS
    have hwr' := succ_wrap (i := k) (by omega)
    have hl1 : IntKind.i64.wrap ((w.length : Int) - 1) = ((w.length - 1 : Nat) : Int) := by rw [IntWalk.i64_in _ (by omega)]; omega
    obtain ⟨ov1, H1, a1, a2, a3, a4⟩ := hb.app s hsne (by omega)
    have hK1 := hK.trans a3
    have hN1 := a4 hN
    -- behind the cell
    have fin : ∀ (ov2 : AV) (H2 : AH) (E : Env), (E = [(0, v), (6, wv), (7, ov2), (8, .int .i64 i), (9, .int .i64 k)] ∨ E = [(83, .bool false), (0, v), (6, wv), (7, ov2), (8, .int .i64 i), (9, .int .i64 k), (83, .bool false)]) → ByV lo H2 ov2 (b ++ padS s wk (r.drop (k + 1)).isEmpty) → Kept lo H0 H2 → Names H2 →
        W Tryd.call K (.code (.cond (.t 103) (.seq (.seq (.reg Tryd.fn11_r23) (.trim [2, 3])) .ret) .skip) :: .block 7 :: .code (.seq (.reg Tryd.fn11_r24) (.trim [0, 6, 7, 8, 9])) :: .code L :: .block 6 :: ks) E H2 (.seq (.reg Tryd.fn11_r22) (.trim [0, 6, 7, 8, 9, 103])) := by
      intro ov2 H2 E hE h1 h2 h3
      have hol := h1.lenS
      rcases hE with rfl | rfl <;> simp only [Tryd.fn11_r22, hol, AmR, kp, pushA, exe, Arg.val, Env.at, lk, putd, ok1, okM, abin, Option.getD_some, if_true, if_false, reduceCtorEq, Nat.reduceEqDiff, Option.map_some, ↓exe_lenl] <;> refine ⟨fun hge => ?_, fun hlt => ?_⟩
      · simp only [Tryd.fn11_r23, AmR, kp, exe, Arg.val, Env.at, lk, putd, ok1, Option.getD_some, if_true, if_false, reduceCtorEq, Nat.reduceEqDiff]
        exact hf _ H2 h2 h3 (by rw [List.length_append] at hT; omega) rfl rfl
      · simp only [Tryd.fn11_r24, hwr', AmR, kp, exe, Arg.val, Env.at, lk, putd, ok1, okM, abin, Option.getD_some, if_true, if_false, reduceCtorEq, Nat.reduceEqDiff]
        exact ih (k + 1) _ ov2 H2 (by omega) h1 h2 h3 hT hft.2 (fun _ => by omega) (by omega) hd hf
      · simp only [Tryd.fn11_r23, AmR, kp, exe, Arg.val, Env.at, lk, putd, ok1, Option.getD_some, if_true, if_false, reduceCtorEq, Nat.reduceEqDiff]
        exact hf _ H2 h2 h3 (by rw [List.length_append] at hT; omega) rfl rfl
      · simp only [Tryd.fn11_r24, hwr', AmR, kp, exe, Arg.val, Env.at, lk, putd, ok1, okM, abin, Option.getD_some, if_true, if_false, reduceCtorEq, Nat.reduceEqDiff]
        exact ih (k + 1) _ ov2 H2 (by omega) h1 h2 h3 hT hft.2 (fun _ => by omega) (by omega) hd hf
    have hst : ofBytes s ≠ [] := by cases s with | nil => exact absurd rfl hsne | cons => simp [ofBytes]
    subst u1
    have hvs := e1
    rw [e1] at fin ⊢
    simp only [Tryd.fn11_l0, Tryd.fn11_r18, hwl, hkw, AmR, kp, pushA, exe, Arg.val, Env.at, lk, putd, ok1, okM, abin, Option.getD_some, if_true, if_false, reduceCtorEq, Nat.reduceEqDiff, decide_true, Option.map_some, ↓exe_lenl]
    simp only [Tryd.fn11_r19, hi0, hi1, e2, e3, hk0, hk1, u2, u3, takeFrom, ofBytes_solid, a1, Int.toNat_natCast, and_self, AmR, kp, exe, Arg.val, Env.at, lk, putd, ok1, okM, Option.getD_some, if_true, if_false, reduceCtorEq, Nat.reduceEqDiff, Bool.true_eq_false]
    by_cases hlast : k + 1 = r.length
    · have e5 : ((k : Int) < ((w.length - 1 : Nat) : Int)) = False := eq_false (by omega)
      have e6 : (r.drop (k + 1)).isEmpty = true := by rw [hlast, List.drop_length]; rfl
      have hf2 := fin ov1 H1 _ (.inr rfl) (by rw [e6]; exact a2) hK1 hN1
      simp only [W_seq, W_reg] at hf2
      simp only [Tryd.fn11_r20, hwl, hl1, e5, AmR, kp, pushA, exe, Arg.val, Env.at, lk, putd, ok1, okM, abin, Option.getD_some, if_true, if_false, reduceCtorEq, Nat.reduceEqDiff, decide_false, Option.map_some, ↓exe_lenl]
      exact hf2
    · have e5 : ((k : Int) < ((w.length - 1 : Nat) : Int)) = True := eq_true (by omega)
      have e6 : (r.drop (k + 1)).isEmpty = false := by
        cases hd' : r.drop (k + 1) with
        | nil => have := congrArg List.length hd'; simp at this; omega
        | cons => rfl
      have hw1 : IntKind.i64.wrap ((wk : Int) - (s.length : Int)) = ((wk - s.length : Nat) : Int) := by rw [IntWalk.i64_in _ (by omega)]; omega
      have hw2 : IntKind.i64.wrap (((wk - s.length : Nat) : Int) + 2) = ((wk - s.length + 2 : Nat) : Int) := by rw [IntWalk.i64_in _ (by omega)]; omega
      have hbl := Tryd.blanksRef (wk - s.length + 2) (by omega)
      obtain ⟨ov2, H2, d1, d2, d3, d4⟩ := a2.app (List.replicate (wk - s.length + 2) 32) (by simp [List.replicate_succ]) (by simp; omega)
      have hf2 := fin ov2 H2 _ (.inl rfl) (by rw [e6]; unfold padS; rw [if_neg (by simp), ← List.append_assoc]; exact d2) (hK1.trans d3) (d4 hN1)
      simp only [W_seq, W_reg] at hf2
      have hnew := hN1.new
      have hq : q < lo := by have := hv.1 _ _ _ _ _ hvs; omega
      have g1 : ∀ nx fl, (AH.mk H1.blks nx fl).get q = some bk := fun _ _ => (a3.2.2 q hq).trans e2
      have hq2 : q2 < lo := by have := hu.2 _ _ _ _ _ rfl; omega
      have g2 : ∀ nx fl, (AH.mk H1.blks nx fl).get q2 = some b2 := fun _ _ => (a3.2.2 q2 hq2).trans u2
      obtain ⟨q3, o3, c3, b3, v1, v2, v3⟩ := hwH.at hwk
      have hq3 : q3 < lo := hwn _ _ _ _ _ v1
      have g3 : ∀ nx fl, (AH.mk H1.blks nx fl).get q3 = some b3 := fun _ _ => (a3.2.2 q3 hq3).trans v2
      rw [v1] at hf2 hwl ⊢
      simp only [Tryd.fn11_r20, hl1, e5, lenS_sl, AmR, kp, pushA, exe, Arg.val, Env.at, lk, putd, ok1, okM, abin, Option.getD_some, if_true, if_false, reduceCtorEq, Nat.reduceEqDiff, decide_true, Option.map_some, ↓exe_lenl, lenS_sl]
      refine W_drawn' (by kernel_rfl) ?_
      simp only [Tryd.fn11_r21, Tryd.fn11_r21a, Tryd.fn11_r21b, g1, g2, g3, hi0, hi1, e3, hk0, hk1, hkw, u3, v3, hw1, hw2, hbl, hnew, takeFrom, ofBytes_solid, d1, Int.toNat_natCast, and_self, AmR, kp, exe, Arg.val, Env.at, lk, putd, ok1, okM, abin, Option.getD_some, if_true, if_false, reduceCtorEq, Nat.reduceEqDiff, Nat.reduceAdd, Bool.true_eq_false, true_and, List.nil_append, visH, List.filter_nil, List.flatMap_nil, List.contains_cons, List.contains_nil, Bool.or_false, List.map_cons, List.map_nil]
      exact hf2

end Go.Am
