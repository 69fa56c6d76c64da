/-
EventClips on the machine. Conditions: none.
-/
import Derived.Test.YtodonjfcaimgiaaDoorAmMg
set_option linter.unusedSimpArgs false
set_option linter.unusedVariables false
namespace Go.Am

theorem EvS.grow {H H' : AH} {v : AV} {l : List Ev} (h : EvS H v l) (hg : Grow H H') (hn : ∀ i o z n c, v = .sl i o z n c → i < H.next) : EvS H' v l := SliceV.grow h hg hn
theorem EvS.blks {H : AH} {v : AV} {l : List Ev} (h : EvS H v l) (nx fl : Nat) : EvS ⟨H.blks, nx, fl⟩ v l := by
  rcases h.cases with ⟨rfl, h1, h2⟩ | ⟨rfl, h1, h2⟩ | ⟨i, o, c, b, rfl, hb, hl, hcs⟩
  · unfold EvS; rw [h1, h2]; exact .nil
  · unfold EvS; rw [h1, h2]; exact .emp
  · unfold EvS; rw [← hcs]; exact SliceV.sl (H := ⟨H.blks, nx, fl⟩) hb hl
theorem Names.blks {H : AH} (h : Names H) (fl : Nat) : Names ⟨H.blks, H.next, fl⟩ := h

/-- A list of events as the first argument of a call by value. -/
theorem evs_view {H : AH} {v : AV} {l : List Ev} (hv : EvS H v l) {rest us : List AV} (k : Nat) (hr : ∀ k, views H rest k = some (us, [], k)) :
    ∃ v' bs kq, views H (v :: rest) k = some (v' :: us, bs, kq) ∧ EvS ⟨bs ++ [], kq, kq⟩ v' l ∧ (∀ i o z n c, v' = .sl i o z n c → i < kq) ∧ Names ⟨bs ++ [], kq, kq⟩ := by
  rcases hv.cases with ⟨rfl, h1, h2⟩ | ⟨rfl, h1, h2⟩ | ⟨i, o, c, b, rfl, hb, hl, hcs⟩
  · exact ⟨.nils, [], k, views_flat rfl (hr k), by unfold EvS; rw [h1, h2]; exact .nil, fun _ _ _ _ _ e => (by cases e), fun x hx => (by cases hx)⟩
  · exact ⟨.esl, [], k, views_flat rfl (hr k), by unfold EvS; rw [h1, h2]; exact .emp, fun _ _ _ _ _ e => (by cases e), fun x hx => (by cases hx)⟩
  · refine ⟨.sl k 0 7 l.length c, _, k + 1, viewS hb hl hcs (evs_flat l) (hr (k + 1)), ?_, fun i o z n c e => (by cases e; exact Nat.lt_succ_self _), fun x hx => ?_⟩
    · have hlen := rowsOf_length Ev.cells_len l
      have := SliceV.sl (H := ⟨[(k, ⟨rowsOf Ev.cells l, b.ro, b.ty, false, false⟩)] ++ [], k + 1, k + 1⟩) (z := 7) (i := k) (o := 0) (n := l.length) (c := c) (b := ⟨rowsOf Ev.cells l, b.ro, b.ty, false, false⟩) (by simp [AH.get, lk]) (by show 0 + l.length * 7 ≤ (rowsOf Ev.cells l).length; omega)
      rw [List.drop_zero, List.take_of_length_le (by show (rowsOf Ev.cells l).length ≤ _; omega)] at this
      exact this
    · simp only [List.append_nil, List.mem_cons, List.not_mem_nil, or_false] at hx
      subst hx
      exact Nat.lt_succ_self _

theorem Tryd.lawClips (l : List Ev) (v : AV) (s0 s1 n0 : Int) (H : AH) (hv : EvS H v l) : Tryd.call 4 [v, .agg [.int .i64 s0, .int .i64 s1], .int .i64 n0] H = some (.ok (.bool true), H) := by
  obtain ⟨v', bs, kq, hvw, he, hlt, hN⟩ := evs_view hv (rest := [.agg [.int .i64 s0, .int .i64 s1], .int .i64 n0]) 8 fun k => views_agg rfl (views_flat rfl (views_nil H k))
  refine ecall_flat 8 [] _ _ (out := [.bool true]) rfl rfl rfl hvw rfl ?_
  show W Tryd.call _ _ _ _ _
  generalize hH : (⟨bs ++ [], kq, kq⟩ : AH) = H0 at he hN
  have hlt0 : ∀ i o z n c, v' = .sl i o z n c → i < H0.next := by rw [← hH]; exact hlt
  have hfl : H0.floor ≤ H0.next := by rw [← hH]; exact Nat.le_refl _
  have haw := Tryd.awake
  have g1 := Grow.push H0 30 true [.int .i64 s0, .int .i64 s1]
  have he1 := he.grow g1 hlt0
  have hN1 := hN.push 30 true [.int .i64 s0, .int .i64 s1]
  have hb1 := get_push_new H0 30 true [.int .i64 s0, .int .i64 s1]
  have hlt1 : ∀ i o z n c, v' = .sl i o z n c → i < (H0.push 30 true [.int .i64 s0, .int .i64 s1]).next := fun i o z n c e => Nat.lt_succ_of_lt (hlt0 i o z n c e)
  have hsm := Tryd.small l v' _ he1
  simp only [Tryd.fn4, Tryd.fn4_r0, AmR, Cd_beq, Cd_bne, Cd_nbeq, Rf_beq, Rf_bne, Rf_nbeq, Df_beq, Df_bne, Df_nbeq, kp, pushA, exe, number, Arg.val, Env.at, lk, putd, AV.cells?, ok1, okM, abin, Option.getD_some, if_true, if_false, List.getElem?_cons_zero, List.getElem?_cons_succ, Bool.not_true, Bool.not_false, reduceIte, reduceCtorEq, Nat.reduceEqDiff, Nat.reduceAdd, Nat.reduceMul, Nat.reduceLT, Nat.reduceSub, decide_true, decide_false, Bool.false_eq_true, Bool.true_eq_false, resAll, resOf, Option.some.injEq, List.cons.injEq, AV.bool.injEq, AV.int.injEq, AV.str.injEq, and_true, true_and, List.nil_append, List.append_nil, visH, List.filter_cons, List.filter_nil, List.flatMap_nil, List.flatMap_cons, List.contains_cons, List.contains_nil, Nat.reduceBEq, Bool.or_false, Bool.or_true, Bool.false_or, Bool.true_or, Nat.reduceLeDiff, aun, List.map_cons, List.map_nil, putAt, solid, List.all_cons, List.all_nil, Bool.and_true, Bool.and_self, List.length_cons, List.length_nil, List.drop_zero, List.take_succ_cons, List.take_zero, List.drop_succ_cons, Option.map_some, Option.map_none, List.cons_append, afill, rep, flat1, flat2, Int.reduceEq, Int.reduceLT, Int.reduceLE, Int.reduceNeg, Int.reduceAdd, Int.reduceSub, Int.reduceMul, Int.reduceToNat, AV.sl.injEq, and_assoc, exists_eq_left, exists_eq_left', AH.take1, List.reduceReplicate, List.flatten_cons, List.flatten_nil, List.set_cons_zero, List.set_cons_succ, aeqv, aeq, Bool.false_bne, bne_self_eq_false, Bool.true_bne, Int.cast_ofNat_Int, Int.reduceGT, Int.reduceGE]
  cases hs : smallB l with
  | false =>
    rw [hs] at hsm
    simp only [Tryd.fn4_r1, Tryd.fn4_r2, hsm, haw, AmR, Cd_beq, Cd_bne, Cd_nbeq, Rf_beq, Rf_bne, Rf_nbeq, Df_beq, Df_bne, Df_nbeq, kp, pushA, exe, number, Arg.val, Env.at, lk, putd, AV.cells?, ok1, okM, abin, Option.getD_some, if_true, if_false, List.getElem?_cons_zero, List.getElem?_cons_succ, Bool.not_true, Bool.not_false, reduceIte, reduceCtorEq, Nat.reduceEqDiff, Nat.reduceAdd, Nat.reduceMul, Nat.reduceLT, Nat.reduceSub, decide_true, decide_false, Bool.false_eq_true, Bool.true_eq_false, resAll, resOf, Option.some.injEq, List.cons.injEq, AV.bool.injEq, AV.int.injEq, AV.str.injEq, and_true, true_and, List.nil_append, List.append_nil, visH, List.filter_cons, List.filter_nil, List.flatMap_nil, List.flatMap_cons, List.contains_cons, List.contains_nil, Nat.reduceBEq, Bool.or_false, Bool.or_true, Bool.false_or, Bool.true_or, Nat.reduceLeDiff, aun, List.map_cons, List.map_nil, putAt, solid, List.all_cons, List.all_nil, Bool.and_true, Bool.and_self, List.length_cons, List.length_nil, List.drop_zero, List.take_succ_cons, List.take_zero, List.drop_succ_cons, Option.map_some, Option.map_none, List.cons_append, afill, rep, flat1, flat2, Int.reduceEq, Int.reduceLT, Int.reduceLE, Int.reduceNeg, Int.reduceAdd, Int.reduceSub, Int.reduceMul, Int.reduceToNat, AV.sl.injEq, and_assoc, exists_eq_left, exists_eq_left', AH.take1, List.reduceReplicate, List.flatten_cons, List.flatten_nil, List.set_cons_zero, List.set_cons_succ, aeqv, aeq, Bool.false_bne, bne_self_eq_false, Bool.true_bne, Int.cast_ofNat_Int, Int.reduceGT, Int.reduceGE]
  | true =>
    rw [hs] at hsm
    have hl : l.length ≤ 1000000 := by
      unfold smallB at hs
      rw [Bool.and_eq_true, decide_eq_true_iff] at hs
      omega
    obtain ⟨a, Ha, ca, na⟩ := Tryd.shift l v' n0 _ hl he1
    have hea := he1.grow na.grow hlt1
    have hlta : ∀ i o z n c, v' = .sl i o z n c → i < Ha.next := fun i o z n c e => Nat.lt_of_lt_of_le (hlt1 i o z n c e) na.grow.2.1
    obtain ⟨b, Hb, cb, nb⟩ := Tryd.shiftRef l v' n0 Ha hl hea
    have heb := hea.grow nb.grow hlta
    have hNb := nb.names (na.names hN1)
    have hltb : ∀ i o z n c, v' = .sl i o z n c → i < Hb.next := fun i o z n c e => Nat.lt_of_lt_of_le (hlta i o z n c e) nb.grow.2.1
    have hsa : EvS Hb a (shiftL l n0) := EvS.grow na.slice nb.grow na.lt
    have hsb : EvS Hb b (shiftL l n0) := nb.slice
    have hbx : Hb.get H0.next = some ⟨[.int .i64 s0, .int .i64 s1], false, 30, true, true⟩ := by
      rw [nb.grow.2.2 _ (Nat.lt_of_lt_of_le (Nat.lt_succ_self _) na.grow.2.1), na.grow.2.2 _ (Nat.lt_succ_self _)]
      exact hb1
    have hbc : ∀ (X : List (Nat × Blk)) nx fl, (∀ i b, lk Hb.blks i = some b → lk X i = some b) → (AH.mk X nx fl).cellsAt H0.next 0 2 = some [.int .i64 s0, .int .i64 s1] := fun X nx fl hX => by
      unfold AH.cellsAt
      have : (AH.mk X nx fl).get H0.next = _ := hX _ _ hbx
      rw [this]
      rfl
    have hbc0 := fun nx fl => hbc Hb.blks nx fl fun _ _ h => h
    have hnew := hNb.new
    obtain ⟨p, Hp, cp, np⟩ := Tryd.clip l v' s0 s1 ⟨Hb.blks, Hb.next, Hb.next⟩ hl (heb.blks _ _)
    have hpn : Hb.next ≤ Hp.next := np.grow.2.1
    have q1 : newBlks Hb.blks Hp.next = [] := by
      unfold newBlks
      rw [List.filter_eq_nil_iff]
      intro x hx
      have := hNb x hx
      simp; omega
    have q2 : newBlks Hp.blks Hb.next ++ Hb.blks = Hp.blks := by
      rcases np with ⟨_, _, _, rfl⟩ | ⟨c, b, _, rfl, _⟩
      · rw [hnew]; rfl
      · show newBlks ((Hb.next, b) :: Hb.blks) Hb.next ++ Hb.blks = (Hb.next, b) :: Hb.blks
        rw [newBlks_cons, if_pos (Nat.le_refl _), hnew]; rfl
    have hNq : Names ⟨Hp.blks, Hp.next, Hb.floor⟩ := np.names (hNb.blks _)
    have gq : Grow Hb ⟨Hp.blks, Hp.next, Hb.floor⟩ := ⟨rfl, hpn, fun i hi => np.grow.2.2 i hi⟩
    have heq := heb.grow gq hltb
    have hpq : EvS ⟨Hp.blks, Hp.next, Hb.floor⟩ p (clipL s0 s1 l) := EvS.blks (H := Hp) np.slice _ _
    obtain ⟨r, Hr, cr, nr⟩ := Tryd.clipRef l v' s0 s1 ⟨Hp.blks, Hp.next, Hb.floor⟩ hl heq
    have hcl := clip_len s0 s1 l
    have hsl : (shiftL l n0).length ≤ 1000000 := by
      unfold shiftL
      split
      · split
        · simp
        · split
          · rw [List.length_map]; exact hl
          · simp
      · simp
    have hlta : ∀ i o z n c, a = .sl i o z n c → i < Hb.next := fun i o z n c e => Nat.lt_of_lt_of_le (na.lt i o z n c e) nb.grow.2.1
    have hsame1 := Tryd.same (clipL s0 s1 l) p r Hr (by omega) (hpq.grow nr.grow np.lt) nr.slice
    have hltb2 : ∀ i o z n c, a = .sl i o z n c → i < Hp.next := fun i o z n c e => Nat.lt_of_lt_of_le (hlta i o z n c e) hpn
    have hltb3 : ∀ i o z n c, b = .sl i o z n c → i < Hp.next := fun i o z n c e => Nat.lt_of_lt_of_le (nb.lt i o z n c e) hpn
    have hsame2 := Tryd.same (shiftL l n0) a b Hr hsl ((hsa.grow gq hlta).grow nr.grow hltb2) ((hsb.grow gq nb.lt).grow nr.grow hltb3)
    simp only [Tryd.fn4_r1, hsm, AmR, Cd_beq, Cd_bne, Cd_nbeq, Rf_beq, Rf_bne, Rf_nbeq, Df_beq, Df_bne, Df_nbeq, kp, pushA, exe, number, Arg.val, Env.at, lk, putd, AV.cells?, ok1, okM, abin, Option.getD_some, if_true, if_false, List.getElem?_cons_zero, List.getElem?_cons_succ, Bool.not_true, Bool.not_false, reduceIte, reduceCtorEq, Nat.reduceEqDiff, Nat.reduceAdd, Nat.reduceMul, Nat.reduceLT, Nat.reduceSub, decide_true, decide_false, Bool.false_eq_true, Bool.true_eq_false, resAll, resOf, Option.some.injEq, List.cons.injEq, AV.bool.injEq, AV.int.injEq, AV.str.injEq, and_true, true_and, List.nil_append, List.append_nil, visH, List.filter_cons, List.filter_nil, List.flatMap_nil, List.flatMap_cons, List.contains_cons, List.contains_nil, Nat.reduceBEq, Bool.or_false, Bool.or_true, Bool.false_or, Bool.true_or, Nat.reduceLeDiff, aun, List.map_cons, List.map_nil, putAt, solid, List.all_cons, List.all_nil, Bool.and_true, Bool.and_self, List.length_cons, List.length_nil, List.drop_zero, List.take_succ_cons, List.take_zero, List.drop_succ_cons, Option.map_some, Option.map_none, List.cons_append, afill, rep, flat1, flat2, Int.reduceEq, Int.reduceLT, Int.reduceLE, Int.reduceNeg, Int.reduceAdd, Int.reduceSub, Int.reduceMul, Int.reduceToNat, AV.sl.injEq, and_assoc, exists_eq_left, exists_eq_left', AH.take1, List.reduceReplicate, List.flatten_cons, List.flatten_nil, List.set_cons_zero, List.set_cons_succ, aeqv, aeq, Bool.false_bne, bne_self_eq_false, Bool.true_bne, Int.cast_ofNat_Int, Int.reduceGT, Int.reduceGE]
    simp only [Tryd.fn4_r3, ca, AmR, Cd_beq, Cd_bne, Cd_nbeq, Rf_beq, Rf_bne, Rf_nbeq, Df_beq, Df_bne, Df_nbeq, kp, pushA, exe, number, Arg.val, Env.at, lk, putd, AV.cells?, ok1, okM, abin, Option.getD_some, if_true, if_false, List.getElem?_cons_zero, List.getElem?_cons_succ, Bool.not_true, Bool.not_false, reduceIte, reduceCtorEq, Nat.reduceEqDiff, Nat.reduceAdd, Nat.reduceMul, Nat.reduceLT, Nat.reduceSub, decide_true, decide_false, Bool.false_eq_true, Bool.true_eq_false, resAll, resOf, Option.some.injEq, List.cons.injEq, AV.bool.injEq, AV.int.injEq, AV.str.injEq, and_true, true_and, List.nil_append, List.append_nil, visH, List.filter_cons, List.filter_nil, List.flatMap_nil, List.flatMap_cons, List.contains_cons, List.contains_nil, Nat.reduceBEq, Bool.or_false, Bool.or_true, Bool.false_or, Bool.true_or, Nat.reduceLeDiff, aun, List.map_cons, List.map_nil, putAt, solid, List.all_cons, List.all_nil, Bool.and_true, Bool.and_self, List.length_cons, List.length_nil, List.drop_zero, List.take_succ_cons, List.take_zero, List.drop_succ_cons, Option.map_some, Option.map_none, List.cons_append, afill, rep, flat1, flat2, Int.reduceEq, Int.reduceLT, Int.reduceLE, Int.reduceNeg, Int.reduceAdd, Int.reduceSub, Int.reduceMul, Int.reduceToNat, AV.sl.injEq, and_assoc, exists_eq_left, exists_eq_left', AH.take1, List.reduceReplicate, List.flatten_cons, List.flatten_nil, List.set_cons_zero, List.set_cons_succ, aeqv, aeq, Bool.false_bne, bne_self_eq_false, Bool.true_bne, Int.cast_ofNat_Int, Int.reduceGT, Int.reduceGE]
    simp only [Tryd.fn4_r4, cb, AmR, Cd_beq, Cd_bne, Cd_nbeq, Rf_beq, Rf_bne, Rf_nbeq, Df_beq, Df_bne, Df_nbeq, kp, pushA, exe, number, Arg.val, Env.at, lk, putd, AV.cells?, ok1, okM, abin, Option.getD_some, if_true, if_false, List.getElem?_cons_zero, List.getElem?_cons_succ, Bool.not_true, Bool.not_false, reduceIte, reduceCtorEq, Nat.reduceEqDiff, Nat.reduceAdd, Nat.reduceMul, Nat.reduceLT, Nat.reduceSub, decide_true, decide_false, Bool.false_eq_true, Bool.true_eq_false, resAll, resOf, Option.some.injEq, List.cons.injEq, AV.bool.injEq, AV.int.injEq, AV.str.injEq, and_true, true_and, List.nil_append, List.append_nil, visH, List.filter_cons, List.filter_nil, List.flatMap_nil, List.flatMap_cons, List.contains_cons, List.contains_nil, Nat.reduceBEq, Bool.or_false, Bool.or_true, Bool.false_or, Bool.true_or, Nat.reduceLeDiff, aun, List.map_cons, List.map_nil, putAt, solid, List.all_cons, List.all_nil, Bool.and_true, Bool.and_self, List.length_cons, List.length_nil, List.drop_zero, List.take_succ_cons, List.take_zero, List.drop_succ_cons, Option.map_some, Option.map_none, List.cons_append, afill, rep, flat1, flat2, Int.reduceEq, Int.reduceLT, Int.reduceLE, Int.reduceNeg, Int.reduceAdd, Int.reduceSub, Int.reduceMul, Int.reduceToNat, AV.sl.injEq, and_assoc, exists_eq_left, exists_eq_left', AH.take1, List.reduceReplicate, List.flatten_cons, List.flatten_nil, List.set_cons_zero, List.set_cons_succ, aeqv, aeq, Bool.false_bne, bne_self_eq_false, Bool.true_bne, Int.cast_ofNat_Int, Int.reduceGT, Int.reduceGE]
    refine W_drawn' (by kernel_rfl) ?_
    simp only [Tryd.fn4_r5, hnew, hbc0, cp, AmR, Cd_beq, Cd_bne, Cd_nbeq, Rf_beq, Rf_bne, Rf_nbeq, Df_beq, Df_bne, Df_nbeq, kp, pushA, exe, number, Arg.val, Env.at, lk, putd, AV.cells?, ok1, okM, abin, Option.getD_some, if_true, if_false, List.getElem?_cons_zero, List.getElem?_cons_succ, Bool.not_true, Bool.not_false, reduceIte, reduceCtorEq, Nat.reduceEqDiff, Nat.reduceAdd, Nat.reduceMul, Nat.reduceLT, Nat.reduceSub, decide_true, decide_false, Bool.false_eq_true, Bool.true_eq_false, resAll, resOf, Option.some.injEq, List.cons.injEq, AV.bool.injEq, AV.int.injEq, AV.str.injEq, and_true, true_and, List.nil_append, List.append_nil, visH, List.filter_cons, List.filter_nil, List.flatMap_nil, List.flatMap_cons, List.contains_cons, List.contains_nil, Nat.reduceBEq, Bool.or_false, Bool.or_true, Bool.false_or, Bool.true_or, Nat.reduceLeDiff, aun, List.map_cons, List.map_nil, putAt, solid, List.all_cons, List.all_nil, Bool.and_true, Bool.and_self, List.length_cons, List.length_nil, List.drop_zero, List.take_succ_cons, List.take_zero, List.drop_succ_cons, Option.map_some, Option.map_none, List.cons_append, afill, rep, flat1, flat2, Int.reduceEq, Int.reduceLT, Int.reduceLE, Int.reduceNeg, Int.reduceAdd, Int.reduceSub, Int.reduceMul, Int.reduceToNat, AV.sl.injEq, and_assoc, exists_eq_left, exists_eq_left', AH.take1, List.reduceReplicate, List.flatten_cons, List.flatten_nil, List.set_cons_zero, List.set_cons_succ, aeqv, aeq, Bool.false_bne, bne_self_eq_false, Bool.true_bne, Int.cast_ofNat_Int, Int.reduceGT, Int.reduceGE]
    simp only [Tryd.fn4_r5a, q1, q2, cr, hsame1, hsame2, AmR, Cd_beq, Cd_bne, Cd_nbeq, Rf_beq, Rf_bne, Rf_nbeq, Df_beq, Df_bne, Df_nbeq, kp, pushA, exe, number, Arg.val, Env.at, lk, putd, AV.cells?, ok1, okM, abin, Option.getD_some, if_true, if_false, List.getElem?_cons_zero, List.getElem?_cons_succ, Bool.not_true, Bool.not_false, reduceIte, reduceCtorEq, Nat.reduceEqDiff, Nat.reduceAdd, Nat.reduceMul, Nat.reduceLT, Nat.reduceSub, decide_true, decide_false, Bool.false_eq_true, Bool.true_eq_false, resAll, resOf, Option.some.injEq, List.cons.injEq, AV.bool.injEq, AV.int.injEq, AV.str.injEq, and_true, true_and, List.nil_append, List.append_nil, visH, List.filter_cons, List.filter_nil, List.flatMap_nil, List.flatMap_cons, List.contains_cons, List.contains_nil, Nat.reduceBEq, Bool.or_false, Bool.or_true, Bool.false_or, Bool.true_or, Nat.reduceLeDiff, aun, List.map_cons, List.map_nil, putAt, solid, List.all_cons, List.all_nil, Bool.and_true, Bool.and_self, List.length_cons, List.length_nil, List.drop_zero, List.take_succ_cons, List.take_zero, List.drop_succ_cons, Option.map_some, Option.map_none, List.cons_append, afill, rep, flat1, flat2, Int.reduceEq, Int.reduceLT, Int.reduceLE, Int.reduceNeg, Int.reduceAdd, Int.reduceSub, Int.reduceMul, Int.reduceToNat, AV.sl.injEq, and_assoc, exists_eq_left, exists_eq_left', AH.take1, List.reduceReplicate, List.flatten_cons, List.flatten_nil, List.set_cons_zero, List.set_cons_succ, aeqv, aeq, Bool.false_bne, bne_self_eq_false, Bool.true_bne, Int.cast_ofNat_Int, Int.reduceGT, Int.reduceGE]
    simp only [Tryd.fn4_r5b, beq_self_eq_true, AmR, Cd_beq, Cd_bne, Cd_nbeq, Rf_beq, Rf_bne, Rf_nbeq, Df_beq, Df_bne, Df_nbeq, kp, pushA, exe, number, Arg.val, Env.at, lk, putd, AV.cells?, ok1, okM, abin, Option.getD_some, if_true, if_false, List.getElem?_cons_zero, List.getElem?_cons_succ, Bool.not_true, Bool.not_false, reduceIte, reduceCtorEq, Nat.reduceEqDiff, Nat.reduceAdd, Nat.reduceMul, Nat.reduceLT, Nat.reduceSub, decide_true, decide_false, Bool.false_eq_true, Bool.true_eq_false, resAll, resOf, Option.some.injEq, List.cons.injEq, AV.bool.injEq, AV.int.injEq, AV.str.injEq, and_true, true_and, List.nil_append, List.append_nil, visH, List.filter_cons, List.filter_nil, List.flatMap_nil, List.flatMap_cons, List.contains_cons, List.contains_nil, Nat.reduceBEq, Bool.or_false, Bool.or_true, Bool.false_or, Bool.true_or, Nat.reduceLeDiff, aun, List.map_cons, List.map_nil, putAt, solid, List.all_cons, List.all_nil, Bool.and_true, Bool.and_self, List.length_cons, List.length_nil, List.drop_zero, List.take_succ_cons, List.take_zero, List.drop_succ_cons, Option.map_some, Option.map_none, List.cons_append, afill, rep, flat1, flat2, Int.reduceEq, Int.reduceLT, Int.reduceLE, Int.reduceNeg, Int.reduceAdd, Int.reduceSub, Int.reduceMul, Int.reduceToNat, AV.sl.injEq, and_assoc, exists_eq_left, exists_eq_left', AH.take1, List.reduceReplicate, List.flatten_cons, List.flatten_nil, List.set_cons_zero, List.set_cons_succ, aeqv, aeq, Bool.false_bne, bne_self_eq_false, Bool.true_bne, Int.cast_ofNat_Int, Int.reduceGT, Int.reduceGE]
    simp only [Tryd.fn4_r5c, haw, AmR, Cd_beq, Cd_bne, Cd_nbeq, Rf_beq, Rf_bne, Rf_nbeq, Df_beq, Df_bne, Df_nbeq, kp, pushA, exe, number, Arg.val, Env.at, lk, putd, AV.cells?, ok1, okM, abin, Option.getD_some, if_true, if_false, List.getElem?_cons_zero, List.getElem?_cons_succ, Bool.not_true, Bool.not_false, reduceIte, reduceCtorEq, Nat.reduceEqDiff, Nat.reduceAdd, Nat.reduceMul, Nat.reduceLT, Nat.reduceSub, decide_true, decide_false, Bool.false_eq_true, Bool.true_eq_false, resAll, resOf, Option.some.injEq, List.cons.injEq, AV.bool.injEq, AV.int.injEq, AV.str.injEq, and_true, true_and, List.nil_append, List.append_nil, visH, List.filter_cons, List.filter_nil, List.flatMap_nil, List.flatMap_cons, List.contains_cons, List.contains_nil, Nat.reduceBEq, Bool.or_false, Bool.or_true, Bool.false_or, Bool.true_or, Nat.reduceLeDiff, aun, List.map_cons, List.map_nil, putAt, solid, List.all_cons, List.all_nil, Bool.and_true, Bool.and_self, List.length_cons, List.length_nil, List.drop_zero, List.take_succ_cons, List.take_zero, List.drop_succ_cons, Option.map_some, Option.map_none, List.cons_append, afill, rep, flat1, flat2, Int.reduceEq, Int.reduceLT, Int.reduceLE, Int.reduceNeg, Int.reduceAdd, Int.reduceSub, Int.reduceMul, Int.reduceToNat, AV.sl.injEq, and_assoc, exists_eq_left, exists_eq_left', AH.take1, List.reduceReplicate, List.flatten_cons, List.flatten_nil, List.set_cons_zero, List.set_cons_succ, aeqv, aeq, Bool.false_bne, bne_self_eq_false, Bool.true_bne, Int.cast_ofNat_Int, Int.reduceGT, Int.reduceGE]

end Go.Am
