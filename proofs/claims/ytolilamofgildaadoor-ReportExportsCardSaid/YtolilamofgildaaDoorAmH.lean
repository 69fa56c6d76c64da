/-
The reference's widths and blanks. Conditions: those that each theorem names.
-/
import Derived.Test.YtolilamofgildaaDoorAmG
set_option linter.unusedSimpArgs false
set_option linter.unusedVariables false
namespace Go.Am

theorem Tryd.widthsRefIn (H : AH) (hNm : Names H) (hfl : H.floor ≤ H.next) (v : AV) (rows : List (List (List UInt8))) (hv : TabV H.next H v rows) (i : Nat) (r : List (List UInt8)) (hr : rows[i]? = some r) (hs : ∀ s ∈ r, s.length ≤ 4000000) (hrl : r.length ≤ 4000000) (hil : rows.length ≤ 4000000) (K : AX → St → Prop) (ks : List Fr) (L : ACode) (hL : L = .loop (some [0, 3, 4, 5]) Tryd.fn26_l0) :
    ∀ (m k : Nat) (w : List Nat), m + k = r.length → w.length = r.length → (∀ a b, Nx Tryd.call K ks [(20, .bool false), (0, v), (3, .sl H.next 0 1 r.length (some r.length)), (4, .int .i64 i), (5, a), (20, b)] (H.push 3 false (intsC (updA w k (r.drop k))))) →
      W Tryd.call K (.block 2 :: ks) [(0, v), (3, .sl H.next 0 1 r.length (some r.length)), (4, .int .i64 i), (5, .int .i64 k)] (H.push 3 false (intsC w)) L := by
  intro m
  induction m with
  | zero =>
    intro k w hk hw hd
    refine W_loopN hL ?_
    have hk' : k = r.length := by omega
    subst hk'
    rw [List.drop_length] at hd
    simp only [Tryd.fn26_l0, Tryd.fn26_r5, AmR, kp, pushA, exe, Arg.val, Env.at, lk, putd, ok1, okM, abin, Option.getD_some, if_true, if_false, reduceCtorEq, Nat.reduceEqDiff, Option.map_some, ↓exe_lenl, lenS_sl]
    exact ⟨fun h => absurd h (by omega), fun _ => hd _ _⟩
  | succ m ih =>
    intro k w hk hw hd
    refine W_loopN hL ?_
    have hkl : k < r.length := by omega
    have hsk : r[k]? = some r[k] := List.getElem?_eq_getElem hkl
    have hwk : w[k]? = some w[k] := List.getElem?_eq_getElem (by omega)
    obtain ⟨q, o, c, b, u, e1, e2, e3, hu⟩ := (hv.push 3 false (intsC w)).row hr
    obtain ⟨q2, o2, c2, b2, u1, u2, u3⟩ := hu.cell hsk
    have hsm := hs _ (List.mem_of_getElem? hsk)
    have hlt : i < rows.length := by
      by_cases hlt : i < rows.length
      · exact hlt
      · rw [List.getElem?_eq_none (by omega)] at hr; cases hr
    rw [drop_cons' hsk] at hd
    unfold updA at hd
    have hgd : w.getD k 0 = w[k] := by rw [List.getD_eq_getElem?_getD, hwk, Option.getD_some]
    rw [hgd] at hd
    have gn := get_push_new H 3 false (intsC w)
    have hck : (intsC w)[0 + k * 1]? = some (.int .i64 (w[k] : Int)) := by simp [intsC, hwk]
    have hst : ∀ x : Nat, (H.push 3 false (intsC w)).store H.next (0 + k * 1) [.int .i64 x] = some (H.push 3 false (intsC (w.set k x))) := fun x => by
      rw [store_new H 3 false _ _ _ hfl (by simp [intsC]; omega) rfl]
      simp [putAt, intsC, List.map_set]
    have hset : w.set k w[k] = w := by simp
    generalize w[k] = wk at *
    generalize r[k] = s at *
    have hi0 : (0 : Int) ≤ (i : Int) := by omega
    have hi1 : ((i : Int) < (rows.length : Int)) = True := eq_true (by omega)
    have hk0 : (0 : Int) ≤ (k : Int) := by omega
    have hk1 : ((k : Int) < (r.length : Int)) = True := eq_true (by omega)
    have hwr := succ_wrap (i := k) (by omega)
    have hnew := (hNm.push 3 false (intsC w)).new
    generalize hHH : H.push 3 false (intsC w) = HH at *
    have hN : ∀ nx fl j, (AH.mk HH.blks nx fl).get j = HH.get j := fun _ _ _ => rfl
    subst u1
    subst e1
    simp only [Tryd.fn26_l0, Tryd.fn26_r5, hk1, lenS_sl, AmR, kp, pushA, exe, Arg.val, Env.at, lk, putd, ok1, okM, abin, Option.getD_some, if_true, if_false, reduceCtorEq, Nat.reduceEqDiff, decide_true, Option.map_some, ↓exe_lenl, lenS_sl]
    refine W_drawn' (by kernel_rfl) ?_
    by_cases hgt : (s.length : Int) > (wk : Int)
    · have eg : ((s.length : Int) > (wk : Int)) = True := eq_true hgt
      have hmx : max wk s.length = s.length := by omega
      rw [hmx] at hd
      simp only [Tryd.fn26_r6, Tryd.fn26_r6a, Tryd.fn26_r6b, hN, hi0, hi1, e2, e3, hk0, hk1, u2, u3, gn, hck, eg, hnew, Int.toNat_natCast, and_self, AmR, kp, pushA, exe, Arg.val, Env.at, lk, putd, ok1, okM, abin, Option.getD_some, if_true, if_false, reduceCtorEq, Nat.reduceEqDiff, Nat.reduceAdd, decide_true, true_and, List.nil_append, visH, List.filter_nil, List.flatMap_nil, List.contains_cons, List.contains_nil, Bool.or_false]
      simp only [Tryd.fn26_r7, hi0, hi1, e2, e3, hk0, hk1, u2, u3, Int.toNat_natCast, and_self, AmR, kp, exe, Arg.val, Env.at, lk, putd, ok1, okM, Option.getD_some, if_true, if_false, reduceCtorEq, Nat.reduceEqDiff]
      simp only [Tryd.fn26_r8, hk0, hk1, hst, Int.toNat_natCast, and_self, AmR, kp, exe, Arg.val, Env.at, lk, putd, AV.cells?, ok1, Option.getD_some, if_true, if_false, reduceCtorEq, Nat.reduceEqDiff, Nat.reduceAdd, List.length_cons, List.length_nil, Option.map_some]
      simp only [Tryd.fn26_r9, hwr, AmR, kp, exe, Arg.val, Env.at, lk, putd, ok1, okM, abin, Option.getD_some, if_true, if_false, reduceCtorEq, Nat.reduceEqDiff]
      exact ih (k + 1) _ (by omega) (by rw [List.length_set]; exact hw) hd
    · have eg : ((s.length : Int) > (wk : Int)) = False := eq_false hgt
      have hmx : max wk s.length = wk := by omega
      rw [hmx, hset] at hd
      simp only [Tryd.fn26_r6, Tryd.fn26_r6a, Tryd.fn26_r6b, hN, hi0, hi1, e2, e3, hk0, hk1, u2, u3, gn, hck, eg, hnew, Int.toNat_natCast, and_self, AmR, kp, pushA, exe, Arg.val, Env.at, lk, putd, ok1, okM, abin, Option.getD_some, if_true, if_false, reduceCtorEq, Nat.reduceEqDiff, Nat.reduceAdd, decide_false, true_and, List.nil_append, visH, List.filter_nil, List.flatMap_nil, List.contains_cons, List.contains_nil, Bool.or_false]
      simp only [Tryd.fn26_r9, hwr, AmR, kp, exe, Arg.val, Env.at, lk, putd, ok1, okM, abin, Option.getD_some, if_true, if_false, reduceCtorEq, Nat.reduceEqDiff]
      rw [← hHH]
      exact ih (k + 1) _ (by omega) hw hd

theorem Tryd.widthsRefOut (H : AH) (hNm : Names H) (hfl : H.floor ≤ H.next) (v : AV) (rows : List (List (List UInt8))) (hv : TabV H.next H v rows) (n : Nat) (hn : n ≤ 4000000) (hs : ∀ r ∈ rows, r.length = n ∧ ∀ s ∈ r, s.length ≤ 4000000) (hil : rows.length ≤ 4000000) (K : AX → St → Prop) (ks : List Fr) (L : ACode) (hL : L = .loop (some [0, 3, 4]) Tryd.fn26_l1) :
    ∀ (m i : Nat) (w : List Nat), m + i = rows.length → w.length = n → (∀ a b, Nx Tryd.call K ks [(14, .bool false), (0, v), (3, .sl H.next 0 1 n (some n)), (4, a), (14, b)] (H.push 3 false (intsC ((rows.drop i).foldl (fun w r => List.zipWith max w (r.map List.length)) w)))) →
      W Tryd.call K (.block 0 :: ks) [(0, v), (3, .sl H.next 0 1 n (some n)), (4, .int .i64 i)] (H.push 3 false (intsC w)) L := by
  have hvl := hv.lenS
  intro m
  induction m with
  | zero =>
    intro i w hi hw hd
    refine W_loopN hL ?_
    have hi' : i = rows.length := by omega
    subst hi'
    rw [List.drop_length] at hd
    simp only [Tryd.fn26_l1, Tryd.fn26_r3, hvl, AmR, kp, pushA, exe, Arg.val, Env.at, lk, putd, ok1, okM, abin, Option.getD_some, if_true, if_false, reduceCtorEq, Nat.reduceEqDiff, Option.map_some, ↓exe_lenl]
    exact ⟨fun h => absurd h (by omega), fun _ => hd _ _⟩
  | succ m ih =>
    intro i w hi hw hd
    refine W_loopN hL ?_
    have hil' : i < rows.length := by omega
    have hr : rows[i]? = some rows[i] := List.getElem?_eq_getElem hil'
    have hsr := hs _ (List.mem_of_getElem? hr)
    rw [drop_cons' hr, List.foldl_cons] at hd
    generalize rows[i] = r at *
    obtain ⟨rfl, hsr⟩ := hsr
    have hi1 : ((i : Int) < (rows.length : Int)) = True := eq_true (by omega)
    have hwi := succ_wrap (i := i) (by omega)
    have hin := Tryd.widthsRefIn H hNm hfl v rows hv i r hr hsr hn hil
    simp only [Tryd.fn26_l1, Tryd.fn26_r3, hvl, hi1, AmR, kp, pushA, exe, Arg.val, Env.at, lk, putd, ok1, okM, abin, Option.getD_some, if_true, if_false, reduceCtorEq, Nat.reduceEqDiff, decide_true, Option.map_some, ↓exe_lenl]
    simp only [Tryd.fn26_r4, AmR, kp, exe, Arg.val, Env.at, lk, putd, ok1, Option.getD_some, if_true, if_false, reduceCtorEq, Nat.reduceEqDiff]
    refine hin K _ _ rfl r.length 0 w (by omega) hw fun a b => ?_
    rw [List.drop_zero, updA_zero hw]
    simp only [Tryd.fn26_r10, hwi, AmR, kp, exe, Arg.val, Env.at, lk, putd, ok1, okM, abin, Option.getD_some, if_true, if_false, reduceCtorEq, Nat.reduceEqDiff]
    exact ih (i + 1) _ (by omega) (by simp [hw]) hd

theorem Tryd.widthsRef (H : AH) (hNm : Names H) (hfl : H.floor ≤ H.next) (v : AV) (rows : List (List (List UInt8))) (hv : TabV H.next H v rows) (hne : rows ≠ []) (n : Nat) (hhd : (rows.headD []).length = n) (hn : n ≤ 4000000) (hs : ∀ r ∈ rows, r.length = n ∧ ∀ s ∈ r, s.length ≤ 4000000) (hil : rows.length ≤ 4000000) :
    Tryd.call 26 [v] H = some (.ok (.sl H.next 0 1 n (some n)), H.push 3 false (intsC (wid n rows))) := by
  obtain ⟨r0, rest, hrows⟩ : ∃ r0 rest, rows = r0 :: rest := by cases rows with | nil => exact absurd rfl hne | cons a b => exact ⟨a, b, rfl⟩
  have hr0 : rows[0]? = some r0 := by rw [hrows]; rfl
  have hrn := (hs r0 (List.mem_of_getElem? hr0)).1
  subst hrn
  obtain ⟨q, o, c, b, u, e1, e2, e3, hu⟩ := hv.row hr0
  have hul := hu.lenS
  have hlen : 0 < rows.length := by rw [hrows]; simp
  have h00 : (0 : Int) ≤ 0 := Int.le_refl 0
  have h01 : ((0 : Int) < (rows.length : Int)) = True := eq_true (by omega)
  have hm1 : (r0.length * 8 ≤ 140737488351232) = True := eq_true (by omega)
  have hm2 : ((r0.length : Int) ≤ 140737488351232) = True := eq_true (by omega)
  have hrp : rep r0.length [AV.int .i64 0] = intsC (List.replicate r0.length 0) := by simp [rep, intsC, List.flatten_replicate_singleton]
  have hout := Tryd.widthsRefOut H hNm hfl v rows hv r0.length hn hs hil
  have he3 : b.cells[o + 0 * 1]? = some u := e3
  refine ecall_W 6 [] _ _ (out := [.sl H.next 0 1 r0.length (some r0.length)]) rfl rfl rfl ?_
  show W Tryd.call _ _ _ _ _
  subst e1
  simp only [Tryd.fn26, Tryd.fn26_r0, AmR, kp, exe, number, Arg.val, Env.at, lk, putd, ok1, Option.getD_some, if_true, if_false, reduceCtorEq]
  simp only [Tryd.fn26_r1, h00, h01, Int.toNat_zero, e2, he3, hul, hm1, hm2, Int.le_refl, Int.natCast_nonneg, hrp, Int.toNat_natCast, and_self, AmR, kp, exe, Arg.val, Env.at, lk, putd, ok1, okM, Option.getD_some, if_true, if_false, reduceCtorEq, Nat.reduceEqDiff, Nat.reduceAdd, Nat.reduceMul, List.length_cons, List.length_nil, Option.map_some, ↓exe_lenl]
  simp only [Tryd.fn26_r2, AmR, kp, exe, Arg.val, Env.at, lk, putd, ok1, Option.getD_some, if_true, if_false, reduceCtorEq, Nat.reduceEqDiff]
  refine hout _ _ _ rfl rows.length 0 (List.replicate r0.length 0) (by omega) (by simp) fun a b' => ?_
  rw [List.drop_zero]
  simp only [Tryd.fn26_r11, exactK_ret, AmR, kp, exe, Arg.val, Env.at, lk, putd, ok1, Option.getD_some, if_true, if_false, reduceCtorEq, Nat.reduceEqDiff, resAll, resOf, true_and]
  rfl

/-- n blanks. -/
theorem Tryd.blanksRefLoop (H0 : AH) (n : Nat) (hn : n ≤ 9000000) (K : AX → St → Prop) (ks : List Fr) (L : ACode) (hL : L = .loop (some [0, 3, 4]) Tryd.fn27_l0) :
    ∀ (m k q : Nat) (c : Option Nat) (H : AH), m + k = n → Own H 5 1 q k c (ofBytes (List.replicate k 32)) → (∀ H' q' c' a b, Own H' 5 1 q' n c' (ofBytes (List.replicate n 32)) → Nx Tryd.call K ks [(8, .bool false), (0, .int .i64 n), (3, .sl q' 0 1 n c'), (4, a), (8, b)] H') →
      W Tryd.call K (.block 0 :: ks) [(0, .int .i64 n), (3, .sl q 0 1 k c), (4, .int .i64 k)] H L := by
  intro m
  induction m with
  | zero =>
    intro k q c H hk ho hd
    refine W_loopN hL ?_
    have hk' : k = n := by omega
    subst hk'
    simp only [Tryd.fn27_l0, Tryd.fn27_r3, AmR, kp, pushA, exe, Arg.val, Env.at, lk, putd, ok1, okM, abin, Option.getD_some, if_true, if_false, reduceCtorEq, Nat.reduceEqDiff]
    exact ⟨fun h => absurd h (by omega), fun _ => hd _ _ _ _ _ ho⟩
  | succ m ih =>
    intro k q c H hk ho hd
    refine W_loopN hL ?_
    have hk1 : ((k : Int) < (n : Int)) = True := eq_true (by omega)
    have hwr := succ_wrap (i := k) (by omega)
    obtain ⟨q', H', a1, a2, a3, a4⟩ := ho.snoc 1 (new := [.int .u8 32]) (m := 1) (by simp) rfl (by omega)
    have c1 : (H.push 5 true [.int .u8 32]).cellsAt H.next 0 1 = some [.int .u8 32] := cellsAt_new _ _ _ _ rfl
    have e1 : ofBytes (List.replicate k 32) ++ [AV.int .u8 32] = ofBytes (List.replicate (k + 1) 32) := by rw [List.replicate_succ']; simp [ofBytes]
    rw [e1] at a2
    simp only [Tryd.fn27_l0, Tryd.fn27_r3, hk1, AmR, kp, pushA, exe, Arg.val, Env.at, lk, putd, ok1, okM, abin, Option.getD_some, if_true, if_false, reduceCtorEq, Nat.reduceEqDiff, decide_true]
    simp only [Tryd.fn27_r4, takeFrom, c1, a1, AmR, kp, exe, Arg.val, Env.at, lk, putd, AV.cells?, ok1, Option.getD_some, if_true, if_false, reduceCtorEq, Nat.reduceEqDiff, Nat.reduceAdd, Nat.reduceMul, Bool.true_eq_false, and_true, List.append_nil, Nat.reduceLeDiff, List.map_cons, List.map_nil, putAt, solid, List.all_cons, List.all_nil, Bool.and_self, List.length_cons, List.length_nil, afill, rep, List.reduceReplicate, List.flatten_cons, List.flatten_nil, List.set_cons_zero]
    simp only [Tryd.fn27_r5, hwr, AmR, kp, exe, Arg.val, Env.at, lk, putd, ok1, okM, abin, Option.getD_some, if_true, if_false, reduceCtorEq, Nat.reduceEqDiff]
    exact ih (k + 1) q' none H' (by omega) a2 hd

theorem Tryd.blanksRef (n : Nat) (hn : n ≤ 9000000) (H : AH) : Tryd.call 27 [.int .i64 n] H = some (.ok (.str (List.replicate n 32)), H) := by
  refine ecall_flat 6 [] _ _ (out := [.str (List.replicate n 32)]) rfl rfl rfl (views_flat rfl (views_nil H 6)) rfl ?_
  show W Tryd.call _ _ _ _ _
  have ho := own_new ⟨[], 6, 6⟩ 5 true [] (z := 1) (n := 0) (some 0) (by omega) rfl (.inl rfl) (Nat.le_refl _)
  simp only [Tryd.fn27, Tryd.fn27_r0, AmR, kp, exe, number, Arg.val, Env.at, lk, putd, ok1, Option.getD_some, if_true, if_false, reduceCtorEq, List.append_nil]
  simp only [Tryd.fn27_r1, AmR, kp, exe, Arg.val, Env.at, lk, putd, ok1, Option.getD_some, if_true, if_false, reduceCtorEq, Nat.reduceEqDiff, List.map_nil, afill, rep, List.reduceReplicate, List.flatten_nil]
  simp only [Tryd.fn27_r2, AmR, kp, exe, Arg.val, Env.at, lk, putd, ok1, Option.getD_some, if_true, if_false, reduceCtorEq, Nat.reduceEqDiff]
  refine Tryd.blanksRefLoop ⟨[], 6, 6⟩ n hn _ _ _ rfl n 0 6 (some 0) _ (by omega) ho fun H' q' c' a b h => ?_
  have hc := h.cells
  rw [Nat.mul_one] at hc
  simp only [Tryd.fn27_r6, takeFrom, hc, toBytes_of, Nat.mul_one, flatK_ret, AmR, kp, exe, Arg.val, Env.at, lk, putd, ok1, okM, Option.getD_some, if_true, if_false, reduceCtorEq, Nat.reduceEqDiff, resAll, resOf, Option.map_some]

end Go.Am
