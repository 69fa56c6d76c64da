/-
The widths of a table's columns, and its size. Conditions: those that each theorem names.
-/
import Derived.Test.YtolilamofgildaaDoorAmC
set_option linter.unusedSimpArgs false
set_option linter.unusedVariables false
namespace Go.Am

def GrowN (H H' : AH) : Prop := Grow H H' ∧ (Names H → Names H')
theorem GrowN.push (H : AH) (ty : TypeId) (wh : Bool) (cs : List AV) : GrowN H (H.push ty wh cs) := ⟨Grow.push _ _ _ _, fun h => h.push _ _ _⟩

def intsC (w : List Nat) : List AV := w.map fun (n : Nat) => AV.int .i64 (n : Int)

def updA : List Nat → Nat → List (List UInt8) → List Nat
  | w, _, [] => w
  | w, k, s :: t => updA (w.set k (max (w.getD k 0) s.length)) (k + 1) t

theorem updA_eq : ∀ (t : List (List UInt8)) (pre ws : List Nat), ws.length = t.length → updA (pre ++ ws) pre.length t = pre ++ List.zipWith max ws (t.map List.length)
  | [], pre, ws, h => by
    have : ws = [] := List.length_eq_zero_iff.1 (by simpa using h)
    subst this; simp [updA]
  | s :: t, pre, [], h => by simp at h
  | s :: t, pre, w :: ws, h => by
    have e1 : (pre ++ w :: ws).set pre.length (max ((pre ++ w :: ws).getD pre.length 0) s.length) = (pre ++ [max w s.length]) ++ ws := by
      rw [List.set_append_right _ _ (Nat.le_refl _), Nat.sub_self]
      simp [List.getD_eq_getElem?_getD]
    have e2 : pre.length + 1 = (pre ++ [max w s.length]).length := by simp
    unfold updA
    rw [e1, e2, updA_eq t _ ws (by simpa using h)]
    simp
theorem updA_zero {w : List Nat} {t : List (List UInt8)} (h : w.length = t.length) : updA w 0 t = List.zipWith max w (t.map List.length) := updA_eq t [] w h
theorem updA_len : ∀ (t : List (List UInt8)) (w : List Nat) (k : Nat), (updA w k t).length = w.length
  | [], w, k => rfl
  | s :: t, w, k => by unfold updA; rw [updA_len t]; simp

theorem TabV.push {H : AH} {v : AV} {rows : List (List (List UInt8))} (h : TabV H.next H v rows) (ty : TypeId) (wh : Bool) (cs : List AV) : TabV H.next (H.push ty wh cs) v rows := h.old (Nat.le_refl _) fun i hi => get_push_old _ _ _ _ hi
theorem StrsV.push {H : AH} {v : AV} {r : List (List UInt8)} (h : StrsV H.next H v r) (ty : TypeId) (wh : Bool) (cs : List AV) : StrsV H.next (H.push ty wh cs) v r := h.old (Nat.le_refl _) fun i hi => get_push_old _ _ _ _ hi

theorem Tryd.widthsIn (H : AH) (hfl : H.floor ≤ H.next) (v : AV) (rows : List (List (List UInt8))) (i : Nat) (u : AV) (r : List (List UInt8)) (hu : StrsV H.next H u r) (hs : ∀ s ∈ r, s.length ≤ 4000000) (hrl : r.length ≤ 4611686018427387904) (K : AX → St → Prop) (ks : List Fr) (L : ACode) (hL : L = .loop (some [4, 17, 18, 19, 33, 34, 35]) Tryd.fn20_l0) :
    ∀ (m k : Nat) (w : List Nat), m + k = r.length → w.length = r.length → ((r.drop k).all cellB = true → ∀ a b, Nx Tryd.call K ks [(36, .bool false), (4, .sl H.next 0 1 r.length (some r.length)), (17, v), (18, .int .i64 rows.length), (19, .int .i64 i), (33, u), (34, .int .i64 r.length), (35, a), (36, b)] (H.push 3 false (intsC (updA w k (r.drop k))))) →
      ((r.drop k).all cellB = false → ∀ e H', GrowN H H' → e.at 2 = .nils → e.at 3 = .bool false → Rt Tryd.call K ks e H') →
      W Tryd.call K (.block 2 :: ks) [(4, .sl H.next 0 1 r.length (some r.length)), (17, v), (18, .int .i64 rows.length), (19, .int .i64 i), (33, u), (34, .int .i64 r.length), (35, .int .i64 k)] (H.push 3 false (intsC w)) L := by
  intro m
  induction m with
  | zero =>
    intro k w hk hw hd hf
    refine W_loopN hL ?_
    have hk' : k = r.length := by omega
    subst hk'
    rw [List.drop_length] at hd
    simp only [Tryd.fn20_l0, Tryd.fn20_r10, AmR, kp, pushA, exe, Arg.val, Env.at, lk, putd, okM, abin, Option.getD_some, if_true, if_false, Nat.reduceEqDiff]
    exact ⟨fun h => absurd h (by omega), fun _ => hd rfl _ _⟩
  | succ m ih =>
    intro k w hk hw hd hf
    refine W_loopN hL ?_
    have hkl : k < r.length := by omega
    have hsk : r[k]? = some r[k] := List.getElem?_eq_getElem hkl
    obtain ⟨q2, o2, c2, b2, u1, u2, u3⟩ := (hu.push 3 false (intsC w)).cell hsk
    have hdk := drop_cons' hsk
    have hsm := hs _ (List.mem_of_getElem? hsk)
    rw [hdk, List.all_cons] at hd hf
    generalize r[k] = s at *
    have hk0 : (0 : Int) ≤ (k : Int) := by omega
    have hk1 : ((k : Int) < (r.length : Int)) = True := eq_true (by omega)
    have hwr := succ_wrap (i := k) (by omega)
    have hcl := Tryd.cell s hsm
    subst u1
    simp only [Tryd.fn20_l0, Tryd.fn20_r10, hk1, AmR, kp, pushA, exe, Arg.val, Env.at, lk, putd, okM, abin, Option.getD_some, if_true, if_false, Nat.reduceEqDiff, decide_true]
    simp only [Tryd.fn20_r11, hk0, hk1, u2, u3, Int.toNat_natCast, and_self, AmR, kp, exe, Arg.val, Env.at, lk, putd, ok1, okM, Option.getD_some, if_true, if_false, Nat.reduceEqDiff]
    simp only [Tryd.fn20_r12, hcl, AmR, kp, exe, Arg.val, Env.at, lk, putd, ok1, okM, Option.getD_some, if_true, if_false, Nat.reduceEqDiff, aun, List.map_cons, List.map_nil]
    cases hcb : cellB s with
    | false =>
      simp only [Tryd.fn20_r13, AmR, kp, pushA, exe, Arg.val, Env.at, lk, putd, ok1, Option.getD_some, if_true, if_false, Bool.not_false, Nat.reduceEqDiff]
      exact hf (by rw [hcb]; rfl) _ _ (GrowN.push _ _ _ _) rfl rfl
    | true =>
      have gn := get_push_new H 3 false (intsC w)
      have hwk : w[k]? = some w[k] := List.getElem?_eq_getElem (by omega)
      have hck : (intsC w)[0 + k * 1]? = some (.int .i64 (w[k] : Int)) := by simp [intsC, hwk]
      have hmx : (if (s.length : Int) > (w[k] : Int) then (s.length : Int) else (w[k] : Int)) = ((max (w.getD k 0) s.length : Nat) : Int) := by
        rw [List.getD_eq_getElem?_getD, hwk, Option.getD_some]
        split <;> omega
      have hst : (H.push 3 false (intsC w)).store H.next (0 + k * 1) [.int .i64 ((max (w.getD k 0) s.length : Nat) : Int)] = some (H.push 3 false (intsC (w.set k (max (w.getD k 0) s.length)))) := by
        rw [store_new H 3 false _ _ _ hfl (by simp [intsC]; omega) rfl]
        simp [putAt, intsC, List.map_set]
      simp only [Tryd.fn20_r14, hk0, hk1, gn, hck, hmx, Int.toNat_natCast, and_self, AmR, kp, pushA, exe, Arg.val, Env.at, lk, putd, ok1, okM, Option.getD_some, if_true, if_false, Bool.not_true, Nat.reduceEqDiff]
      simp only [Tryd.fn20_r15, hst, AmR, kp, exe, Arg.val, Env.at, lk, putd, AV.cells?, Option.getD_some, if_true, if_false, Nat.reduceEqDiff, Nat.reduceAdd, List.length_cons, List.length_nil, Option.map_some]
      simp only [Tryd.fn20_r16, hwr, AmR, kp, exe, Arg.val, Env.at, lk, putd, ok1, okM, abin, Option.getD_some, if_true, if_false, Nat.reduceEqDiff]
      refine ih (k + 1) _ (by omega) (by rw [List.length_set]; exact hw) (fun h a b => ?_) (fun h => hf (by rw [hcb, h]; rfl))
      have := hd (by rw [hcb, h]; rfl) a b
      unfold updA at this
      exact this

theorem Tryd.widthsOut (H : AH) (hfl : H.floor ≤ H.next) (v : AV) (rows : List (List (List UInt8))) (hv : TabV H.next H v rows) (hs : ∀ r ∈ rows, r.length ≤ 4000000 ∧ ∀ s ∈ r, s.length ≤ 4000000) (n : Nat) (hn : n ≤ 4611686018427387904) (hrl : rows.length ≤ 4611686018427387904) (K : AX → St → Prop) (ks : List Fr) (L : ACode) (hL : L = .loop (some [4, 17, 18, 19]) Tryd.fn20_l1) :
    ∀ (m i : Nat) (w : List Nat), m + i = rows.length → w.length = n → ((rows.drop i).all (rowB n) = true → ∀ a b, Nx Tryd.call K ks [(20, .bool false), (4, .sl H.next 0 1 n (some n)), (17, v), (18, .int .i64 rows.length), (19, a), (20, b)] (H.push 3 false (intsC ((rows.drop i).foldl (fun w r => List.zipWith max w (r.map List.length)) w)))) →
      ((rows.drop i).all (rowB n) = false → ∀ e H', GrowN H H' → e.at 2 = .nils → e.at 3 = .bool false → Rt Tryd.call K ks e H') →
      W Tryd.call K (.block 0 :: ks) [(4, .sl H.next 0 1 n (some n)), (17, v), (18, .int .i64 rows.length), (19, .int .i64 i)] (H.push 3 false (intsC w)) L := by
  intro m
  induction m with
  | zero =>
    intro i w hi hw hd hf
    refine W_loopN hL ?_
    have hi' : i = rows.length := by omega
    subst hi'
    rw [List.drop_length] at hd
    simp only [Tryd.fn20_l1, Tryd.fn20_r5, AmR, kp, pushA, exe, Arg.val, Env.at, lk, putd, okM, abin, Option.getD_some, if_true, if_false, Nat.reduceEqDiff]
    exact ⟨fun h => absurd h (by omega), fun _ => hd rfl _ _⟩
  | succ m ih =>
    intro i w hi hw hd hf
    refine W_loopN hL ?_
    have hil : i < rows.length := by omega
    have hr : rows[i]? = some rows[i] := List.getElem?_eq_getElem hil
    have hdi := drop_cons' hr
    have hsr := hs _ (List.mem_of_getElem? hr)
    rw [hdi, List.all_cons] at hd hf
    rw [List.foldl_cons] at hd
    generalize rows[i] = r at *
    obtain ⟨q, o, c, b, u, e1, e2, e3, hu⟩ := (hv.push 3 false (intsC w)).row hr
    have hu0 : StrsV H.next H u r := by
      obtain ⟨q', o', c', b', u', f1, f2, f3, f4⟩ := hv.row hr
      rw [e1] at f1
      simp only [AV.sl.injEq, true_and] at f1
      obtain ⟨rfl, rfl, rfl⟩ := f1
      have hq : q < H.next := hv.1 _ _ _ _ _ e1
      rw [get_push_old _ _ _ _ hq, f2, Option.some.injEq] at e2
      subst e2
      rw [e3, Option.some.injEq] at f3
      subst f3
      exact f4
    have hul := hu0.lenS
    have hi0 : (0 : Int) ≤ (i : Int) := by omega
    have hi1 : ((i : Int) < (rows.length : Int)) = True := eq_true (by omega)
    have hwi := succ_wrap (i := i) (by omega)
    have hin := Tryd.widthsIn H hfl v rows i u r hu0 hsr.2
    have hrl1 := hsr.1
    subst e1
    simp only [Tryd.fn20_l1, Tryd.fn20_r5, hi1, AmR, kp, pushA, exe, Arg.val, Env.at, lk, putd, okM, abin, Option.getD_some, if_true, if_false, Nat.reduceEqDiff, decide_true]
    simp only [Tryd.fn20_r6, hi0, hi1, e2, e3, Int.toNat_natCast, and_self, AmR, kp, exe, Arg.val, Env.at, lk, putd, ok1, okM, Option.getD_some, if_true, if_false, Nat.reduceEqDiff]
    by_cases h0 : r.length = 0
    · have c0 : ((r.length : Int) == 0) = true := by simp [h0]
      have hrb : rowB n r = false := by
        have : r = [] := List.length_eq_zero_iff.1 h0
        subst this; rfl
      simp only [Tryd.fn20_r7, hul, c0, AmR, kp, pushA, exe, Arg.val, Env.at, lk, putd, ok1, okM, abin, Option.getD_some, if_true, if_false, Nat.reduceEqDiff, Option.map_some, ↓exe_lenl]
      simp only [Tryd.fn20_r8, AmR, kp, exe, Arg.val, Env.at, lk, putd, ok1, Option.getD_some, if_true, if_false, Nat.reduceEqDiff]
      exact hf (by rw [hrb]; rfl) _ _ (GrowN.push _ _ _ _) rfl rfl
    · have c0 : ((r.length : Int) == 0) = false := beq_eq_false_iff_ne.2 (by omega)
      have hne : (r != []) = true := by cases r with | nil => simp at h0 | cons => rfl
      by_cases h1 : r.length = n
      · subst h1
        have c1 : ((r.length : Int) != (r.length : Int)) = false := by simp
        have hrb : rowB r.length r = r.all cellB := by simp only [rowB, hne, beq_self_eq_true, Bool.true_and]
        rw [hrb] at hd hf
        simp only [Tryd.fn20_r7, hul, c0, c1, AmR, kp, pushA, exe, Arg.val, Env.at, lk, putd, ok1, okM, abin, Option.getD_some, if_true, if_false, Nat.reduceEqDiff, Bool.false_eq_true, Option.map_some, ↓exe_lenl, lenS_sl]
        simp only [Tryd.fn20_r9, hul, AmR, kp, exe, Arg.val, Env.at, lk, putd, ok1, okM, Option.getD_some, if_true, if_false, Nat.reduceEqDiff, Option.map_some, ↓exe_lenl]
        refine hin (by omega) K _ _ rfl r.length 0 w (by omega) hw (fun h a b' => ?_) fun h e H' hg h2 h3 => ?_
        · rw [List.drop_zero] at h
          rw [List.drop_zero, updA_zero hw]
          simp only [Tryd.fn20_r17, hwi, AmR, kp, exe, Arg.val, Env.at, lk, putd, ok1, okM, abin, Option.getD_some, if_true, if_false, Nat.reduceEqDiff]
          exact ih (i + 1) _ (by omega) (by simp [hw]) (fun h' => hd (by rw [h, h']; rfl)) fun h' => hf (by rw [h, h']; rfl)
        · rw [List.drop_zero] at h
          simp only [Rt_block, Rt_code]
          exact hf (by rw [h]; rfl) e H' hg h2 h3
      · have c1 : ((r.length : Int) != (n : Int)) = true := by simp; omega
        have hrb : rowB n r = false := by simp only [rowB, beq_eq_false_iff_ne.2 h1, Bool.and_false, Bool.false_and]
        simp only [Tryd.fn20_r7, hul, c0, c1, AmR, kp, pushA, exe, Arg.val, Env.at, lk, putd, ok1, okM, abin, Option.getD_some, if_true, if_false, Nat.reduceEqDiff, Bool.false_eq_true, Option.map_some, ↓exe_lenl, lenS_sl]
        simp only [Tryd.fn20_r8, AmR, kp, exe, Arg.val, Env.at, lk, putd, ok1, Option.getD_some, if_true, if_false, Nat.reduceEqDiff]
        exact hf (by rw [hrb]; rfl) _ _ (GrowN.push _ _ _ _) rfl rfl

/-- What widths hands back. -/
def WidthsR (H : AH) (rows : List (List (List UInt8))) (vs : List AV) (H' : AH) : Prop :=
  (tabB rows = false ∧ vs = [.nils, .bool false] ∧ GrowN H H') ∨ (tabB rows = true ∧ rows = [] ∧ vs = [.nils, .bool true] ∧ H' = H) ∨
  (tabB rows = true ∧ rows ≠ [] ∧ vs = [.sl H.next 0 1 (rows.headD []).length (some (rows.headD []).length), .bool true] ∧ H' = H.push 3 false (intsC (wid (rows.headD []).length rows)))

theorem Tryd.widths (H : AH) (hfl : H.floor ≤ H.next) (v : AV) (rows : List (List (List UInt8))) (hv : TabV H.next H v rows) (hs : ∀ r ∈ rows, r.length ≤ 4000000 ∧ ∀ s ∈ r, s.length ≤ 4000000) (hrl : rows.length ≤ 4000000) : ∃ vs H', WidthsR H rows vs H' ∧ Tryd.call 20 [v] H = some (.ok (pack vs), H') := by
  have hvl := hv.lenS
  refine ecall_E 6 [] _ _ rfl rfl rfl ?_
  show W Tryd.call _ _ _ _ _
  cases hrows : rows with
  | nil =>
    rw [hrows] at hvl
    have c0 : ((([] : List (List (List UInt8))).length : Int) == 0) = true := rfl
    simp only [Tryd.fn20, Tryd.fn20_r0, Tryd.fn20_r1, Tryd.fn20_r2, hvl, c0, endK_ret, AmR, kp, pushA, exe, number, Arg.val, Env.at, lk, putd, ok1, okM, abin, Option.getD_some, if_true, if_false, reduceCtorEq, Nat.reduceEqDiff, resAll, resOf, Option.some.injEq, Option.map_some, exists_eq_left', ↓exe_lenl]
    exact .inr (.inl ⟨rfl, rfl, rfl, rfl⟩)
  | cons r0 rest =>
    rw [← hrows]
    have hhd : rows.headD [] = r0 := by rw [hrows]; rfl
    have hne : rows ≠ [] := by rw [hrows]; simp
    have hlen : 0 < rows.length := by rw [hrows]; simp
    have hr0 : rows[0]? = some r0 := by rw [hrows]; rfl
    have hl0 := (hs r0 (List.mem_of_getElem? hr0)).1
    obtain ⟨q, o, c, b, u, e1, e2, e3, hu⟩ := hv.row hr0
    have hul := hu.lenS
    have c0 : ((rows.length : Int) == 0) = false := beq_eq_false_iff_ne.2 (by omega)
    have h00 : (0 : Int) ≤ 0 := Int.le_refl 0
    have h01 : ((0 : Int) < (rows.length : Int)) = True := eq_true (by omega)
    have hm : (0 : Int) ≤ (r0.length : Int) ∧ (r0.length : Int) ≤ (r0.length : Int) ∧ (r0.length : Int).toNat * 8 ≤ 140737488351232 ∧ (r0.length : Int) ≤ 140737488351232 ∧ ([AV.int .i64 0] : List AV).length = 1 := ⟨by omega, Int.le_refl _, by omega, by omega, rfl⟩
    have hm1 : (r0.length * 8 ≤ 140737488351232) = True := eq_true (by omega)
    have hm2 : ((r0.length : Int) ≤ 140737488351232) = True := eq_true (by omega)
    have hrp : rep r0.length [AV.int .i64 0] = intsC (List.replicate r0.length 0) := by simp [rep, intsC, List.flatten_replicate_singleton]
    have hout := Tryd.widthsOut H hfl v rows hv hs r0.length (by omega) (by omega)
    have he3 : b.cells[o + 0 * 1]? = some u := e3
    have hsl := e1
    rw [hsl] at hvl hout ⊢
    simp only [Tryd.fn20, Tryd.fn20_r0, Tryd.fn20_r1, hvl, c0, AmR, kp, pushA, exe, number, Arg.val, Env.at, lk, putd, ok1, okM, abin, Option.getD_some, if_true, if_false, reduceCtorEq, Nat.reduceEqDiff, Option.map_some, ↓exe_lenl]
    simp only [Tryd.fn20_r3, h00, h01, Int.toNat_zero, e2, he3, hul, hm, hm1, hrp, Int.toNat_natCast, and_self, AmR, kp, exe, Arg.val, Env.at, lk, putd, ok1, okM, Option.getD_some, if_true, if_false, reduceCtorEq, Nat.reduceEqDiff, Nat.reduceMul, Option.map_some, ↓exe_lenl]
    simp only [Tryd.fn20_r4, hvl, AmR, kp, exe, Arg.val, Env.at, lk, putd, ok1, okM, Option.getD_some, if_true, if_false, reduceCtorEq, Nat.reduceEqDiff, Option.map_some, ↓exe_lenl]
    refine hout _ _ _ rfl rows.length 0 (List.replicate r0.length 0) (by omega) (by simp) (fun h a b' => ?_) fun h e H' hg h2 h3 => ?_
    · rw [List.drop_zero] at h
      rw [List.drop_zero]
      simp only [Tryd.fn20_r18, endK_ret, AmR, kp, exe, Arg.val, Env.at, lk, putd, ok1, Option.getD_some, if_true, if_false, Nat.reduceEqDiff, resAll, resOf, Option.some.injEq, exists_eq_left']
      exact .inr (.inr ⟨by unfold tabB; rw [hhd]; exact h, hne, by rw [hhd], by rw [hhd]; rfl⟩)
    · rw [List.drop_zero] at h
      simp only [Rt_code, Rt_nil, endK_ret, resAll, resOf, h2, h3, Option.some.injEq, exists_eq_left']
      exact .inl ⟨by unfold tabB; rw [hhd]; exact h, rfl, hg⟩

end Go.Am
