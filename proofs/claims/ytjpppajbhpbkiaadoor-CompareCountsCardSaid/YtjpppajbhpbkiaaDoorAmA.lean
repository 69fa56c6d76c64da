/-
The keys of lists of events. Conditions: those that each theorem names.
-/
import Derived.Test.YtjpppajbhpbkiaaDoorAmKk
import Derived.Test.YtjpppajbhpbkiaaDoorAmE
set_option linter.unusedSimpArgs false
set_option linter.unusedVariables false
namespace Go.Am

def keysL (l : List Ev) : List (List UInt8) := if okL l = true then l.map keyL else []
/-- What the keys' functions hand back. -/
def KeysR (l : List Ev) (H : AH) (vs : List AV) (H' : AH) : Prop := ∃ v', vs = [v', .bool (okL l)] ∧ NewV H 1 v' (keysL l).length (rowsOf strC (keysL l)) H'

theorem keys_bad {l : List Ev} {H H1 : AH} {kq : Nat} (h : okL l = false) : Back kq H (KeysR l H) [.nils, .bool false] H1 := by
  have e : keysL l = [] := by unfold keysL; rw [if_neg (by rw [h]; decide)]
  exact back_flat rfl ⟨.nils, by rw [h], by rw [e]; exact .inl ⟨rfl, rfl, rfl, rfl⟩⟩

theorem Tryd.keysLoop (l : List Ev) (c : Option Nat) (hl : l.length ≤ 1000000) (K : AX → St → Prop) (ks : List Fr) (L : ACode) (hL : L = .loop (some [4, 7, 8, 9]) Tryd.fn25_l0) (b : Blk) (hc : b.cells = rowsOf Ev.cells l) :
    ∀ (n i : Nat) (H : AH) (v : AV), n + i = l.length → H.get 4 = some b → OutV 5 H 9 1 v i (rowsOf strC ((l.take i).map keyL)) →
    (okL (l.drop i) = true → ∀ H v e, OutV 5 H 9 1 v l.length (rowsOf strC (l.map keyL)) → e.at 4 = v → Nx Tryd.call K ks e H) →
    (okL (l.drop i) = false → ∀ H e, e.at 2 = .nils → e.at 3 = .bool false → Rt Tryd.call K ks e H) →
    W Tryd.call K (.block 0 :: ks) [(4, v), (7, .sl 4 0 7 l.length c), (8, .int .i64 l.length), (9, .int .i64 i)] H L := by
  intro n
  induction n with
  | zero =>
    intro i H v hi hb hv hk hr
    refine W_loopN hL ?_
    have hi' : i = l.length := by omega
    subst hi'
    simp only [Tryd.fn25_l0, Tryd.fn25_r3, AmR, kp, pushA, exe, Arg.val, Env.at, lk, putd, okM, abin, Option.getD_some, if_true, if_false, Nat.reduceEqDiff]
    rw [List.take_length] at hv
    refine ⟨fun h => absurd h (by omega), fun _ => hk (by simp [okL]) _ _ _ hv rfl⟩
  | succ n ih =>
    intro i H v hi hb hv hk hr
    refine W_loopN hL ?_
    obtain ⟨x, hx⟩ : ∃ x, l[i]? = some x := ⟨_, List.getElem?_eq_getElem (by omega)⟩
    have h0 : (0 : Int) ≤ (i : Int) := by omega
    have h1 : ((i : Int) < (l.length : Int)) = True := eq_true (by omega)
    have hw : IntKind.i64.wrap ((i : Int) + 1) = ((i + 1 : Nat) : Int) := by rw [IntWalk.i64_in _ (by omega)]; omega
    have hlo := hv.2.2.1
    have hfl : H.floor ≤ H.next := Nat.le_trans hv.2.1 hlo
    have cx := cellsAt_row Ev.cells_len hb hc hx
    have l7 := Ev.cells_len x
    have sol : x.cells.all solid = true := rfl
    have st := store_push H 23 true [.int .i64 0, .int .i64 0, .int .i64 0, .int .i64 0, .int .i64 0, .str [], .int .i64 0] x.cells hfl rfl sol
    have cn : (H.push 23 true x.cells).cellsAt H.next 0 7 = some x.cells := cellsAt_new _ _ _ _ l7
    have hv1 := hv.push 23 true x.cells
    have k1 : ∀ H, Tryd.call 17 [.agg x.cells] H = some (.ok (.bool x.ok), H) := Tryd.valid x
    have k2 : ∀ H, Tryd.call 7 [.agg x.cells] H = some (.ok (.str (keyL x)), H) := Tryd.key x
    have ho := okL_drop hx
    have hst : (l.take (i + 1)).map keyL = (l.take i).map keyL ++ [keyL x] := by rw [List.take_add_one, hx]; simp
    simp only [Tryd.fn25_l0, Tryd.fn25_r3, h1, AmR, kp, pushA, exe, Arg.val, Env.at, lk, putd, okM, abin, Option.getD_some, if_true, if_false, Nat.reduceEqDiff, decide_true]
    simp only [Tryd.fn25_r4, h0, h1, Int.toNat_natCast, and_self, cx, l7, st, AmR, kp, exe, Arg.val, Env.at, lk, putd, AV.cells?, ok1, okM, Option.getD_some, if_true, if_false, Nat.reduceEqDiff, Option.map_some]
    simp only [Tryd.fn25_r5, cn, k1, AmR, kp, exe, Arg.val, Env.at, lk, putd, okM, Option.getD_some, if_true, if_false, Nat.reduceEqDiff, aun, List.map_cons, List.map_nil, Option.map_some]
    cases hok : x.ok with
    | true =>
      rw [hok, Bool.true_and] at ho
      obtain ⟨v', H', ap, hov, hf', hn', hg'⟩ := hv1.snoc 16 (new := [.str (keyL x)]) rfl (by omega)
      have cn2 : ((H.push 23 true x.cells).push 9 true [.str (keyL x)]).cellsAt (H.push 23 true x.cells).next 0 1 = some [.str (keyL x)] := cellsAt_new _ _ _ _ rfl
      simp only [Tryd.fn25_r7, cn, k2, cn2, takeFrom, ap, AmR, kp, pushA, exe, Arg.val, Env.at, lk, putd, AV.cells?, ok1, okM, Option.getD_some, if_true, if_false, Bool.not_true, Nat.reduceEqDiff, Nat.reduceAdd, Nat.reduceMul, Bool.true_eq_false, and_true, List.append_nil, Nat.reduceLeDiff, List.map_cons, List.map_nil, putAt, solid, List.all_cons, List.all_nil, Bool.and_self, List.length_cons, List.length_nil, Option.map_some, afill, rep, List.reduceReplicate, List.flatten_cons, List.flatten_nil, List.set_cons_zero]
      simp only [Tryd.fn25_r8, hw, AmR, kp, exe, Arg.val, Env.at, lk, putd, ok1, okM, abin, Option.getD_some, if_true, if_false, Nat.reduceEqDiff]
      refine ih (i + 1) H' v' (by omega) ((hg' _ (by omega)).trans ((get_push_old H _ _ _ (by omega)).trans hb)) ?_ (by rw [← ho]; exact hk) (by rw [← ho]; exact hr)
      rw [hst, rowsOf_append]
      exact hov
    | false =>
      rw [hok, Bool.false_and] at ho
      simp only [Tryd.fn25_r6, AmR, kp, pushA, exe, Arg.val, Env.at, lk, putd, ok1, Option.getD_some, if_true, if_false, Bool.not_false, Nat.reduceEqDiff]
      exact hr ho _ _ rfl rfl

theorem Tryd.keys (l : List Ev) (v : AV) (H : AH) (hl : l.length ≤ 1000000) (hv : EvS H v l) :
    ∃ v' H', Tryd.call 25 [v] H = some (.ok (.tup [v', .bool (okL l)]), H') ∧ NewV H 1 v' (keysL l).length (rowsOf strC (keysL l)) H' := by
  have fin : ∀ {us : List AV} {bs : List (Nat × Blk)} {kq : Nat}, views H [v] 4 = some (us, bs, kq) → W Tryd.call (endK Tryd.fn25.res (Back kq H (KeysR l H))) [] (number us 0) ⟨bs ++ [], kq, kq⟩ Tryd.fn25.code →
      ∃ v' H', Tryd.call 25 [v] H = some (.ok (.tup [v', .bool (okL l)]), H') ∧ NewV H 1 v' (keysL l).length (rowsOf strC (keysL l)) H' := fun hvw h => by
    obtain ⟨vs, H', ⟨v', rfl, h1⟩, h4⟩ := ecall_vE 4 [] (lk Tryd.ext) (lk Tryd.tab) (f := 25) (fn := Tryd.fn25) rfl rfl rfl hvw h
    exact ⟨v', H', h4, h1⟩
  have nil0 : l = [] → ∀ {kq : Nat} {H1 : AH}, Back kq H (KeysR l H) [.nils, .bool true] H1 := by
    rintro rfl kq H1
    exact back_flat (vs := [.nils, .bool true]) rfl ⟨.nils, rfl, .inl ⟨rfl, rfl, rfl, rfl⟩⟩
  rcases hv.cases with ⟨rfl, hn, _⟩ | ⟨rfl, hn, _⟩ | ⟨i, o, c, b, rfl, hb, hlb, hcs⟩
  · refine fin (views_flat rfl (views_nil H 4)) ?_
    simp only [Tryd.fn25, Tryd.fn25_r0, Tryd.fn25_r1, Tryd.fn25_r2, AmR, kp, exe, number, Arg.val, Env.at, lk, putd, ok1, okM, Option.getD_some, if_true, if_false, reduceCtorEq, Nat.reduceEqDiff, List.append_nil, Option.map_some, Int.cast_ofNat_Int, ↓exe_lenl, lenS_nils]
    refine W_loopN rfl ?_
    simp only [Tryd.fn25_l0, Tryd.fn25_r3, Tryd.fn25_r9, AmR, kp, pushA, exe, Arg.val, Env.at, lk, putd, ok1, okM, abin, Option.getD_some, if_true, if_false, Nat.reduceEqDiff, decide_false, resAll, resOf, Option.some.injEq, Int.reduceLT, exists_eq_left']
    exact nil0 (List.length_eq_zero_iff.1 hn)
  · refine fin (views_flat rfl (views_nil H 4)) ?_
    simp only [Tryd.fn25, Tryd.fn25_r0, Tryd.fn25_r1, Tryd.fn25_r2, AmR, kp, exe, number, Arg.val, Env.at, lk, putd, ok1, okM, Option.getD_some, if_true, if_false, reduceCtorEq, Nat.reduceEqDiff, List.append_nil, Option.map_some, Int.cast_ofNat_Int, ↓exe_lenl, lenS_esl]
    refine W_loopN rfl ?_
    simp only [Tryd.fn25_l0, Tryd.fn25_r3, Tryd.fn25_r9, AmR, kp, pushA, exe, Arg.val, Env.at, lk, putd, ok1, okM, abin, Option.getD_some, if_true, if_false, Nat.reduceEqDiff, decide_false, resAll, resOf, Option.some.injEq, Int.reduceLT, exists_eq_left']
    exact nil0 (List.length_eq_zero_iff.1 hn)
  · refine fin (viewS hb hlb hcs (evs_flat l) (views_nil H _)) ?_
    simp only [Tryd.fn25, Tryd.fn25_r0, Tryd.fn25_r1, Tryd.fn25_r2, AmR, kp, exe, number, Arg.val, Env.at, lk, putd, ok1, okM, Option.getD_some, if_true, if_false, reduceCtorEq, Nat.reduceEqDiff, Nat.reduceAdd, List.append_nil, Option.map_some, ↓exe_lenl, lenS_sl]
    refine Tryd.keysLoop l c hl _ _ _ rfl ⟨_, _, _, _, _⟩ rfl l.length 0 _ _ (by omega) rfl ⟨by omega, Nat.le_refl _, Nat.le_refl _, .inl ⟨rfl, rfl, rfl⟩⟩ ?_ ?_
    · intro hok H1 v1 e ho he
      rw [List.drop_zero] at hok
      have he' : (lk e 4).getD .undef = v1 := he
      simp only [Tryd.fn25_r9, he', AmR, kp, exe, Arg.val, Env.at, lk, putd, ok1, Option.getD_some, if_true, if_false, Nat.reduceEqDiff, resAll, resOf, Option.some.injEq, exists_eq_left']
      have e1 : keysL l = l.map keyL := by unfold keysL; rw [if_pos hok]
      refine ho.back (Nat.le_refl _) H (strs_flat _) rfl fun v' H' a1 => ⟨v', by rw [hok], ?_⟩
      rw [e1, List.length_map]
      exact a1
    · intro hok H1 e h2 h3
      rw [List.drop_zero] at hok
      simp only [Rt_code, Rt_nil, endK_ret, resAll, resOf, h2, h3, Option.some.injEq, exists_eq_left']
      exact keys_bad hok

end Go.Am
