/-
The keys of lists of events, by the specification. Conditions: those that each theorem names.
-/
import Derived.Test.YtjpppajbhpbkiaaDoorAmA
set_option linter.unusedSimpArgs false
set_option linter.unusedVariables false
namespace Go.Am

theorem Tryd.keysRefLoop (l : List Ev) (c : Option Nat) (hl : l.length ≤ 1000000) (K : AX → St → Prop) (ks : List Fr) (L : ACode) (hL : L = .loop (some [0, 4, 5]) Tryd.fn29_l0) (b : Blk) (hc : b.cells = rowsOf Ev.cells l) :
    ∀ (n i : Nat) (H : AH) (v : AV), n + i = l.length → H.get 4 = some b → OutV 5 H 9 1 v i (rowsOf strC ((l.take i).map keyL)) →
    (okL (l.drop i) = true → ∀ H v e, OutV 5 H 9 1 v l.length (rowsOf strC (l.map keyL)) → e.at 4 = v → Nx Tryd.call K ks e H) →
    (okL (l.drop i) = false → ∀ H e, e.at 2 = .nils → e.at 3 = .bool false → Rt Tryd.call K ks e H) →
    W Tryd.call K (.block 0 :: ks) [(0, .sl 4 0 7 l.length c), (4, v), (5, .int .i64 i)] H L := by
  intro n
  induction n with
  | zero =>
    intro i H v hi hb hv hk hr
    refine W_loopN hL ?_
    have hi' : i = l.length := by omega
    subst hi'
    simp only [Tryd.fn29_l0, Tryd.fn29_r3, AmR, kp, pushA, exe, Arg.val, Env.at, lk, putd, ok1, okM, abin, Option.getD_some, if_true, if_false, reduceCtorEq, Nat.reduceEqDiff, Option.map_some, ↓exe_lenl, lenS_sl]
    rw [List.take_length] at hv
    refine ⟨fun h => absurd h (by omega), fun _ => hk (by simp [okL]) _ _ _ hv rfl⟩
  | succ n ih =>
    intro i H v hi hb hv hk hr
    refine W_loopN hL ?_
    obtain ⟨x, hx⟩ : ∃ x, l[i]? = some x := ⟨_, List.getElem?_eq_getElem (by omega)⟩
    have h0 : (0 : Int) ≤ (i : Int) := by omega
    have h1 : ((i : Int) < (l.length : Int)) = True := eq_true (by omega)
    have hw : IntKind.i64.wrap ((i : Int) + 1) = ((i + 1 : Nat) : Int) := by rw [IntWalk.i64_in _ (by omega)]; omega
    have hlo := hv.2.2.1
    have cx := cellsAt_row Ev.cells_len hb hc hx
    have k1 : ∀ H, Tryd.call 21 [.agg x.cells] H = some (.ok (.bool x.ok), H) := Tryd.validRef x
    have k2 : ∀ H, Tryd.call 8 [.agg x.cells] H = some (.ok (.str (keyL x)), H) := Tryd.keyRef x
    have ho := okL_drop hx
    have hst : (l.take (i + 1)).map keyL = (l.take i).map keyL ++ [keyL x] := by rw [List.take_add_one, hx]; simp
    simp only [Tryd.fn29_l0, Tryd.fn29_r3, h1, AmR, kp, pushA, exe, Arg.val, Env.at, lk, putd, ok1, okM, abin, Option.getD_some, if_true, if_false, reduceCtorEq, Nat.reduceEqDiff, decide_true, Option.map_some, ↓exe_lenl, lenS_sl]
    simp only [Tryd.fn29_r4, h0, h1, Int.toNat_natCast, and_self, cx, k1, AmR, kp, exe, Arg.val, Env.at, lk, putd, ok1, okM, Option.getD_some, if_true, if_false, reduceCtorEq, Nat.reduceEqDiff, aun, List.map_cons, List.map_nil, Option.map_some]
    cases hok : x.ok with
    | true =>
      rw [hok, Bool.true_and] at ho
      obtain ⟨v', H', ap, hov, hf', hn', hg'⟩ := hv.snoc 16 (new := [.str (keyL x)]) rfl (by omega)
      have cn2 : (H.push 9 true [.str (keyL x)]).cellsAt H.next 0 1 = some [.str (keyL x)] := cellsAt_new _ _ _ _ rfl
      simp only [Tryd.fn29_r6, h0, h1, Int.toNat_natCast, and_self, cx, k2, cn2, takeFrom, ap, AmR, kp, pushA, exe, Arg.val, Env.at, lk, putd, AV.cells?, ok1, okM, Option.getD_some, if_true, if_false, Bool.not_true, reduceCtorEq, Nat.reduceEqDiff, Nat.reduceAdd, Nat.reduceMul, Bool.true_eq_false, List.append_nil, Nat.reduceLeDiff, List.map_cons, List.map_nil, putAt, solid, List.all_cons, List.all_nil, Bool.and_self, List.length_cons, List.length_nil, Option.map_some, afill, rep, List.reduceReplicate, List.flatten_cons, List.flatten_nil, List.set_cons_zero]
      simp only [Tryd.fn29_r7, hw, AmR, kp, exe, Arg.val, Env.at, lk, putd, ok1, okM, abin, Option.getD_some, if_true, if_false, reduceCtorEq, Nat.reduceEqDiff]
      refine ih (i + 1) H' v' (by omega) ((hg' _ (by omega)).trans hb) ?_ (by rw [← ho]; exact hk) (by rw [← ho]; exact hr)
      rw [hst, rowsOf_append]
      exact hov
    | false =>
      rw [hok, Bool.false_and] at ho
      simp only [Tryd.fn29_r5, AmR, kp, pushA, exe, Arg.val, Env.at, lk, putd, ok1, Option.getD_some, if_true, if_false, Bool.not_false, reduceCtorEq, Nat.reduceEqDiff]
      exact hr ho _ _ rfl rfl

theorem Tryd.keysRef (l : List Ev) (v : AV) (H : AH) (hl : l.length ≤ 1000000) (hv : EvS H v l) :
    ∃ v' H', Tryd.call 29 [v] H = some (.ok (.tup [v', .bool (okL l)]), H') ∧ NewV H 1 v' (keysL l).length (rowsOf strC (keysL l)) H' := by
  have fin : ∀ {us : List AV} {bs : List (Nat × Blk)} {kq : Nat}, views H [v] 4 = some (us, bs, kq) → W Tryd.call (endK Tryd.fn29.res (Back kq H (KeysR l H))) [] (number us 0) ⟨bs ++ [], kq, kq⟩ Tryd.fn29.code →
      ∃ v' H', Tryd.call 29 [v] H = some (.ok (.tup [v', .bool (okL l)]), H') ∧ NewV H 1 v' (keysL l).length (rowsOf strC (keysL l)) H' := fun hvw h => by
    obtain ⟨vs, H', ⟨v', rfl, h1⟩, h4⟩ := ecall_vE 4 [] (lk Tryd.ext) (lk Tryd.tab) (f := 29) (fn := Tryd.fn29) rfl rfl rfl hvw h
    exact ⟨v', H', h4, h1⟩
  have emp0 : l = [] → ∀ {kq : Nat} {H1 : AH} (q : Nat) (c : Option Nat) (b : Blk), kq ≤ q → H1.get q = some b → b.ro = false → b.cells = [] → Back kq H (KeysR l H) [.sl q 0 1 0 c, .bool true] H1 := by
    rintro rfl kq H1 q c b hq hg hro hcs
    exact back_slice hq hg hro (by rw [hcs]; rfl) rfl ⟨_, rfl, .inr ⟨c, b, rfl, rfl, hro, hcs, rfl⟩⟩
  rcases hv.cases with ⟨rfl, hn, _⟩ | ⟨rfl, hn, _⟩ | ⟨i, o, c, b, rfl, hb, hlb, hcs⟩
  · refine fin (views_flat rfl (views_nil H 4)) ?_
    simp only [Tryd.fn29, Tryd.fn29_r0, Tryd.fn29_r1, Tryd.fn29_r2, Int.le_refl, and_self, Nat.zero_mul, Nat.zero_le, AmR, kp, exe, number, Arg.val, Env.at, lk, putd, ok1, okM, AH.push, Option.getD_some, if_true, if_false, reduceCtorEq, Nat.reduceEqDiff, Nat.reduceAdd, List.append_nil, List.length_cons, List.length_nil, Option.map_some, rep, Int.reduceLE, Int.reduceToNat, List.reduceReplicate, List.flatten_nil, Int.cast_ofNat_Int, ↓exe_lenl, lenS_nils]
    refine W_loopN rfl ?_
    simp only [Tryd.fn29_l0, Tryd.fn29_r3, Tryd.fn29_r8, AmR, kp, pushA, exe, Arg.val, Env.at, lk, putd, ok1, okM, abin, Option.getD_some, if_true, if_false, reduceCtorEq, Nat.reduceEqDiff, decide_false, resAll, resOf, Option.some.injEq, Option.map_some, Int.reduceLT, exists_eq_left', Int.cast_ofNat_Int, ↓exe_lenl, lenS_nils]
    exact emp0 (List.length_eq_zero_iff.1 hn) _ _ ⟨_, _, _, _, _⟩ (Nat.le_refl _) rfl rfl rfl
  · refine fin (views_flat rfl (views_nil H 4)) ?_
    simp only [Tryd.fn29, Tryd.fn29_r0, Tryd.fn29_r1, Tryd.fn29_r2, Int.le_refl, and_self, Nat.zero_mul, Nat.zero_le, AmR, kp, exe, number, Arg.val, Env.at, lk, putd, ok1, okM, AH.push, Option.getD_some, if_true, if_false, reduceCtorEq, Nat.reduceEqDiff, Nat.reduceAdd, List.append_nil, List.length_cons, List.length_nil, Option.map_some, rep, Int.reduceLE, Int.reduceToNat, List.reduceReplicate, List.flatten_nil, Int.cast_ofNat_Int, ↓exe_lenl, lenS_esl]
    refine W_loopN rfl ?_
    simp only [Tryd.fn29_l0, Tryd.fn29_r3, Tryd.fn29_r8, AmR, kp, pushA, exe, Arg.val, Env.at, lk, putd, ok1, okM, abin, Option.getD_some, if_true, if_false, reduceCtorEq, Nat.reduceEqDiff, decide_false, resAll, resOf, Option.some.injEq, Option.map_some, Int.reduceLT, exists_eq_left', Int.cast_ofNat_Int, ↓exe_lenl, lenS_esl]
    exact emp0 (List.length_eq_zero_iff.1 hn) _ _ ⟨_, _, _, _, _⟩ (Nat.le_refl _) rfl rfl rfl
  · refine fin (viewS hb hlb hcs (evs_flat l) (views_nil H _)) ?_
    have m1 : (0 : Int) ≤ (l.length : Int) := by omega
    have m2 : l.length * 16 ≤ 140737488351232 := by omega
    have m3 : (l.length : Int) ≤ 140737488351232 := by omega
    simp only [Tryd.fn29, Tryd.fn29_r0, Tryd.fn29_r1, Tryd.fn29_r2, m1, m2, m3, Int.le_refl, and_self, Int.toNat_natCast, Int.toNat_zero, AmR, kp, exe, number, Arg.val, Env.at, lk, putd, ok1, okM, AH.push, Option.getD_some, if_true, if_false, reduceCtorEq, Nat.reduceEqDiff, Nat.reduceAdd, List.append_nil, List.length_cons, List.length_nil, Option.map_some, rep, List.reduceReplicate, List.flatten_nil, ↓exe_lenl, lenS_sl]
    refine Tryd.keysRefLoop l c hl _ _ _ rfl ⟨_, _, _, _, _⟩ rfl l.length 0 _ _ (by omega) rfl ⟨by omega, Nat.le_refl _, by show 5 ≤ 6; omega, .inr ⟨5, _, Nat.le_refl _, rfl, by omega, rfl, ?_, Nat.le_refl _, by show 5 < 6; omega, _, _, rfl⟩⟩ ?_ ?_
    · split
      · exact .inl rfl
      · exact .inr rfl
    · intro hok H1 v1 e ho he
      rw [List.drop_zero] at hok
      have he' : (lk e 4).getD .undef = v1 := he
      simp only [Tryd.fn29_r8, he', AmR, kp, exe, Arg.val, Env.at, lk, putd, ok1, Option.getD_some, if_true, if_false, Nat.reduceEqDiff, resAll, resOf, Option.some.injEq, exists_eq_left']
      have e1 : keysL l = l.map keyL := by unfold keysL; rw [if_pos hok]
      refine ho.back (Nat.le_refl _) H (strs_flat _) rfl fun v' H' a1 => ⟨v', by rw [hok], ?_⟩
      rw [e1, List.length_map]
      exact a1
    · intro hok H1 e h2 h3
      rw [List.drop_zero] at hok
      simp only [Rt_code, Rt_nil, endK_ret, resAll, resOf, h2, h3, Option.some.injEq, exists_eq_left']
      exact keys_bad hok

end Go.Am
