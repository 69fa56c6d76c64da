/-
strings.Builder: WriteByte, String with what stays. Conditions: those that each theorem names.
-/
import Derived.Test.YtolilamofgildaaDoorAmW
set_option linter.unusedSimpArgs false
set_option linter.unusedVariables false
namespace Go.Am

/-- What stays: the floor, the blocks below m. -/
def Kept (m : Nat) (H H' : AH) : Prop := H'.floor = H.floor ∧ H.next ≤ H'.next ∧ ∀ i, i < m → H'.get i = H.get i
theorem Kept.refl (m : Nat) (H : AH) : Kept m H H := ⟨rfl, Nat.le_refl _, fun _ _ => rfl⟩
theorem Kept.trans {m : Nat} {H H1 H2 : AH} (h : Kept m H H1) (k : Kept m H1 H2) : Kept m H H2 := ⟨k.1.trans h.1, Nat.le_trans h.2.1 k.2.1, fun i hi => (k.2.2 i hi).trans (h.2.2 i hi)⟩
theorem Kept.push (m : Nat) (H : AH) (hm : m ≤ H.next) (ty : TypeId) (wh : Bool) (cs : List AV) : Kept m H (H.push ty wh cs) := ⟨rfl, Nat.le_succ _, fun _ hi => get_push_old _ _ _ _ (by omega)⟩
theorem Grow.kept {m : Nat} {H H' : AH} (h : Grow H H') (hm : m ≤ H.next) : Kept m H H' := ⟨h.1, h.2.1, fun i hi => h.2.2 i (by omega)⟩

theorem SB.push {m : Nat} {H : AH} {p : Nat} {s : List UInt8} (h : SB m H p s) (ty : TypeId) (wh : Bool) (cs : List AV) : SB m (H.push ty wh cs) p s := by
  obtain ⟨hN, a1, a2, a3, a4⟩ := h
  refine ⟨hN.push _ _ _, a1, a2, by show p < H.next + 1; omega, ?_⟩
  rcases a4 with ⟨b1, b2⟩ | ⟨q, b1, b2, b3, b4, b5, b6, b7⟩
  · exact .inl ⟨b1, by rw [get_push_old _ _ _ _ a3]; exact b2⟩
  · exact .inr ⟨q, b1, b2, b3, by show q < H.next + 1; omega, b5, by rw [get_push_old _ _ _ _ a3]; exact b6, by rw [get_push_old _ _ _ _ b4]; exact b7⟩

theorem SB.writeW {m : Nat} {H : AH} {p : Nat} {s : List UInt8} (h : SB m H p s) (hmn : m ≤ H.next) (t : List UInt8) (h0 : t ≠ []) (hl : s.length + t.length ≤ 70368744177664) :
    ∃ H', Tryd.call 30 [.ptr p 0, .str t] H = some (.ok (.tup [.int .i64 t.length, .nili]), H') ∧ SB m H' p (s ++ t) ∧ H'.floor = H.floor ∧ H.next ≤ H'.next ∧ (∀ i, i < m → H'.get i = H.get i) ∧ ∀ i bk, i < H.next → i ≠ p → H.get i = some bk → bk.wh = true → H'.get i = some bk := by
  obtain ⟨hN, hfp, hmp, hpn, h⟩ := h
  have ht : ofBytes t ≠ [] := by cases t with | nil => exact absurd rfl h0 | cons _ _ => simp [ofBytes]
  rcases h with ⟨rfl, hp⟩ | ⟨q, hqp, hfq, hmq, hqn, hs0, hp, hq⟩
  · have hc := Tryd.copyCheckNew H p _ hfp hp
    unfold Tryd.call at hc
    generalize hG : H.put p ⟨[.ptr p 0, .nils], false, 51, true, true⟩ = G at hc
    have hGn : G.next = H.next := by rw [← hG]; rfl
    have hGf : G.floor = H.floor := by rw [← hG]; rfl
    have hGN : Names G := by rw [← hG]; exact hN.put _ _
    have g0 : G.get p = some ⟨[.ptr p 0, .nils], false, 51, true, true⟩ := by rw [← hG, get_put, if_pos rfl, hp]; rfl
    have g1 : (G.push 5 false (ofBytes t)).get p = _ := (get_push_old G 5 false (ofBytes t) (by omega)).trans g0
    have k2 : (p < (G.push 5 false (ofBytes t)).floor) = False := by
      have : (G.push 5 false (ofBytes t)).floor = G.floor := rfl
      rw [this]; simp; omega
    have b1 : t.length * 2 ≤ 140737488355328 := by simp only [List.length_nil] at hl; omega
    refine ⟨(G.push 5 false (ofBytes t)).put p ⟨[.ptr p 0, .sl G.next 0 1 t.length none], false, 51, true, true⟩, ?_, ⟨(hGN.push _ _ _).put _ _, by show G.floor ≤ p; omega, hmp, by show p < G.next + 1; omega, .inr ⟨G.next, by omega, by show G.floor ≤ G.next; omega, by omega, by show G.next < G.next + 1; omega, ?_, ?_, ?_⟩⟩, hGf, by show H.next ≤ G.next + 1; omega, fun i hi => ?_, fun i bk hi hip hb hwh => ?_⟩
    · refine ecall_W 6 [] _ _ (out := [.int .i64 t.length, .nili]) rfl rfl rfl ?_
      simp only [Tryd.fn30, AmR, number, Nat.reduceAdd]
      simp only [Tryd.fn30_r0, AmR, kp, exe, Arg.val, Env.at, lk, putd, ok1, Option.getD_some, if_true, if_false, reduceCtorEq, Nat.reduceEqDiff]
      simp only [Tryd.fn30_r1, hc, AmR, kp, exe, Arg.val, Env.at, lk, putd, ok1, Option.getD_some, if_true, if_false, reduceCtorEq, Nat.reduceEqDiff, List.map_cons, List.map_nil]
      simp only [Tryd.fn30_r2, g0, takeFrom, aapp, AH.store, ofBytes_solid, ofBytes_length, Nat.div_one, Nat.mod_one, b1, ht, not_false_eq_true, and_self, g1, k2, AmR, kp, exe, Arg.val, Env.at, lk, putd, AV.cells?, ok1, okM, Option.getD_some, if_true, if_false, List.getElem?_cons_zero, List.getElem?_cons_succ, reduceCtorEq, Nat.reduceEqDiff, Nat.reduceAdd, Bool.false_eq_true, Bool.true_eq_false, Nat.reduceLeDiff, putAt, solid, List.all_cons, List.all_nil, Bool.and_self, List.length_cons, List.length_nil, Option.map_some, List.set_cons_zero, List.set_cons_succ]
      simp only [Tryd.fn30_r3, AmR, kp, exe, Arg.val, Env.at, lk, putd, ok1, Option.getD_some, if_true, if_false, Nat.reduceEqDiff, resAll, resOf, and_true]
    · rw [List.nil_append]; exact List.length_pos_iff.2 h0
    · rw [get_put, if_pos rfl, g1]; rfl
    · rw [get_put, if_neg (by omega)]; exact get_push_new _ _ _ _
    · rw [get_put, if_neg (by omega), get_push_old _ _ _ _ (by omega), ← hG, get_put, if_neg (by omega)]
    · rw [get_put, if_neg hip, get_push_old _ _ _ _ (by omega), ← hG, get_put, if_neg hip]; exact hb
  · have hc := Tryd.copyCheck H p _ hp
    unfold Tryd.call at hc
    have ha := aapp_own (H := H) (new := ofBytes t) hq hfq ht (by rw [ofBytes_length]; omega)
    have k1 : (H.turn q 5 true (ofBytes s ++ ofBytes t)).get p = some ⟨[.ptr p 0, .sl q 0 1 s.length none], false, 51, true, true⟩ := by
      rw [get_turn, if_neg (by omega), if_neg (Ne.symm hqp), hp]
    have k2 : (p < (H.turn q 5 true (ofBytes s ++ ofBytes t)).floor) = False := by
      have : (H.turn q 5 true (ofBytes s ++ ofBytes t)).floor = H.floor := rfl
      rw [this]; simp; omega
    refine ⟨(H.turn q 5 true (ofBytes s ++ ofBytes t)).put p ⟨[.ptr p 0, .sl H.next 0 1 (s.length + t.length) none], false, 51, true, true⟩, ?_, ⟨(hN.turn _ _ _ _).put _ _, hfp, hmp, by show p < H.next + 1; omega, .inr ⟨H.next, by omega, by show H.floor ≤ H.next; omega, by omega, by show H.next < H.next + 1; omega, ?_, ?_, ?_⟩⟩, rfl, Nat.le_succ _, fun i hi => ?_, fun i bk hi hip hb hwh => ?_⟩
    · refine ecall_W 6 [] _ _ (out := [.int .i64 t.length, .nili]) rfl rfl rfl ?_
      simp only [Tryd.fn30, AmR, number, Nat.reduceAdd]
      simp only [Tryd.fn30_r0, AmR, kp, exe, Arg.val, Env.at, lk, putd, ok1, Option.getD_some, if_true, if_false, reduceCtorEq, Nat.reduceEqDiff]
      simp only [Tryd.fn30_r1, hc, AmR, kp, exe, Arg.val, Env.at, lk, putd, ok1, Option.getD_some, if_true, if_false, reduceCtorEq, Nat.reduceEqDiff, List.map_cons, List.map_nil]
      simp only [Tryd.fn30_r2, hp, takeFrom, ha, AH.store, ofBytes_solid, ofBytes_length, k1, k2, AmR, kp, exe, Arg.val, Env.at, lk, putd, AV.cells?, ok1, okM, Option.getD_some, if_true, if_false, List.getElem?_cons_zero, List.getElem?_cons_succ, reduceCtorEq, Nat.reduceEqDiff, Nat.reduceAdd, Bool.false_eq_true, Bool.true_eq_false, and_true, Nat.reduceLeDiff, putAt, solid, List.all_cons, List.all_nil, Bool.and_self, List.length_cons, List.length_nil, Option.map_some, List.set_cons_zero, List.set_cons_succ]
      simp only [Tryd.fn30_r3, AmR, kp, exe, Arg.val, Env.at, lk, putd, ok1, Option.getD_some, if_true, if_false, Nat.reduceEqDiff, resAll, resOf, and_true]
    · rw [List.length_append]; omega
    · rw [get_put, if_pos rfl, k1, List.length_append]; rfl
    · rw [get_put, if_neg (by omega), get_turn, if_pos rfl, ofBytes_append]
    · rw [get_put, if_neg (by omega), get_turn, if_neg (by omega), if_neg (by omega)]
    · have hiq : i ≠ q := fun e => by subst e; rw [hq, Option.some.injEq] at hb; subst hb; cases hwh
      rw [get_put, if_neg hip, get_turn, if_neg (by omega), if_neg hiq]; exact hb

theorem SB.writeK {m : Nat} {H : AH} {p : Nat} {s : List UInt8} (h : SB m H p s) (hmn : m ≤ H.next) (t : List UInt8) (h0 : t ≠ []) (hl : s.length + t.length ≤ 70368744177664) :
    ∃ H', Tryd.call 30 [.ptr p 0, .str t] H = some (.ok (.tup [.int .i64 t.length, .nili]), H') ∧ SB m H' p (s ++ t) ∧ Kept m H H' := by
  obtain ⟨H', a1, a2, a3, a4, a5⟩ := h.write hmn t h0 hl
  exact ⟨H', a1, a2, a3, a4, a5⟩

theorem SB.byte {m : Nat} {H : AH} {p : Nat} {s : List UInt8} (h : SB m H p s) (hmn : m ≤ H.next) (c : UInt8) (hl : s.length + 1 ≤ 70368744177664) :
    ∃ H', Tryd.call 23 [.ptr p 0, .int .u8 c.toNat] H = some (.ok .nili, H') ∧ SB m H' p (s ++ [c]) ∧ Kept m H H' := by
  obtain ⟨hN, hfp, hmp, hpn, h⟩ := h
  have ob : ofBytes [c] = [.int .u8 c.toNat] := rfl
  rcases h with ⟨rfl, hp⟩ | ⟨q, hqp, hfq, hmq, hqn, hs0, hp, hq⟩
  · have hc := Tryd.copyCheckNew H p _ hfp hp
    unfold Tryd.call at hc
    generalize hG : H.put p ⟨[.ptr p 0, .nils], false, 51, true, true⟩ = G at hc
    have hGn : G.next = H.next := by rw [← hG]; rfl
    have hGf : G.floor = H.floor := by rw [← hG]; rfl
    have hGN : Names G := by rw [← hG]; exact hN.put _ _
    have g0 : G.get p = some ⟨[.ptr p 0, .nils], false, 51, true, true⟩ := by rw [← hG, get_put, if_pos rfl, hp]; rfl
    generalize hG2 : G.push 5 true [.int .u8 c.toNat] = G2
    have hG2n : G2.next = H.next + 1 := by rw [← hG2, ← hGn]; rfl
    have hG2f : G2.floor = H.floor := by rw [← hG2, ← hGf]; rfl
    have hG2N : Names G2 := by rw [← hG2]; exact hGN.push _ _ _
    have c1 : G2.cellsAt G.next 0 1 = some [.int .u8 c.toNat] := by rw [← hG2]; exact cellsAt_new _ _ _ _ rfl
    have g2 : (G2.push 5 false [.int .u8 c.toNat]).get p = some ⟨[.ptr p 0, .nils], false, 51, true, true⟩ := by
      rw [get_push_old _ _ _ _ (by omega), ← hG2, get_push_old _ _ _ _ (by omega)]; exact g0
    have k2 : (p < (G2.push 5 false [.int .u8 c.toNat]).floor) = False := by
      have : (G2.push 5 false [.int .u8 c.toNat]).floor = G2.floor := rfl
      rw [this]; simp; omega
    refine ⟨(G2.push 5 false [.int .u8 c.toNat]).put p ⟨[.ptr p 0, .sl G2.next 0 1 1 none], false, 51, true, true⟩, ?_, ⟨(hG2N.push _ _ _).put _ _, by show G2.floor ≤ p; omega, hmp, by show p < G2.next + 1; omega, .inr ⟨G2.next, by omega, by show G2.floor ≤ G2.next; omega, by omega, by show G2.next < G2.next + 1; omega, by simp, ?_, ?_⟩⟩, hG2f, by show H.next ≤ G2.next + 1; omega, fun i hi => ?_⟩
    · refine ecall_W 6 [] _ _ (out := [.nili]) rfl rfl rfl ?_
      simp only [Tryd.fn23, AmR, number, Nat.reduceAdd]
      simp only [Tryd.fn23_r0, AmR, kp, exe, Arg.val, Env.at, lk, putd, ok1, Option.getD_some, if_true, if_false, reduceCtorEq, Nat.reduceEqDiff]
      simp only [Tryd.fn23_r1, hc, AmR, kp, exe, Arg.val, Env.at, lk, putd, ok1, Option.getD_some, if_true, if_false, reduceCtorEq, Nat.reduceEqDiff, List.map_cons, List.map_nil]
      simp only [Tryd.fn23_r2, g0, hG2, takeFrom, c1, aapp, Nat.div_one, Nat.mod_one, not_false_eq_true, and_self, AmR, kp, exe, Arg.val, Env.at, lk, putd, AV.cells?, ok1, okM, Option.getD_some, if_true, if_false, List.getElem?_cons_zero, List.getElem?_cons_succ, reduceCtorEq, Nat.reduceEqDiff, Nat.reduceAdd, Nat.reduceMul, Bool.true_eq_false, List.append_nil, Nat.reduceLeDiff, List.map_cons, List.map_nil, putAt, solid, List.all_cons, List.all_nil, Bool.and_self, List.length_cons, List.length_nil, afill, rep, List.reduceReplicate, List.flatten_cons, List.flatten_nil, List.set_cons_zero]
      simp only [Tryd.fn23_r3, g2, k2, AH.store, and_self, AmR, kp, exe, Arg.val, Env.at, lk, putd, AV.cells?, Option.getD_some, if_true, if_false, Nat.reduceEqDiff, Nat.reduceAdd, Bool.false_eq_true, Nat.reduceLeDiff, putAt, solid, List.all_cons, List.all_nil, Bool.and_self, List.length_cons, List.length_nil, Option.map_some, List.set_cons_zero, List.set_cons_succ]
      simp only [Tryd.fn23_r4, exactK_ret, AmR, kp, exe, Arg.val, Env.at, lk, putd, ok1, Option.getD_some, if_true, resAll, resOf, and_true]
    · rw [get_put, if_pos rfl, g2]; rfl
    · rw [get_put, if_neg (by omega)]; exact get_push_new _ _ _ _
    · rw [get_put, if_neg (by omega), get_push_old _ _ _ _ (by omega), ← hG2, get_push_old _ _ _ _ (by omega), ← hG, get_put, if_neg (by omega)]
  · have hc := Tryd.copyCheck H p _ hp
    unfold Tryd.call at hc
    generalize hG2 : H.push 5 true [.int .u8 c.toNat] = G2
    have hG2n : G2.next = H.next + 1 := by rw [← hG2]; rfl
    have hG2f : G2.floor = H.floor := by rw [← hG2]; rfl
    have hG2N : Names G2 := by rw [← hG2]; exact hN.push _ _ _
    have c1 : G2.cellsAt H.next 0 1 = some [.int .u8 c.toNat] := by rw [← hG2]; exact cellsAt_new _ _ _ _ rfl
    have hq2 : G2.get q = some ⟨ofBytes s, false, 5, false, true⟩ := by rw [← hG2, get_push_old _ _ _ _ hqn]; exact hq
    have hp2 : G2.get p = some ⟨[.ptr p 0, .sl q 0 1 s.length none], false, 51, true, true⟩ := by rw [← hG2, get_push_old _ _ _ _ hpn]; exact hp
    have ha := aapp_own (H := G2) (new := [.int .u8 c.toNat]) hq2 (by omega) (by simp) (by simpa using hl)
    have tt : (true && true) = true := rfl
    rw [tt] at ha
    have k1 : (G2.turn q 5 true (ofBytes s ++ [.int .u8 c.toNat])).get p = some ⟨[.ptr p 0, .sl q 0 1 s.length none], false, 51, true, true⟩ := by
      rw [get_turn, if_neg (by omega), if_neg (Ne.symm hqp), hp2]
    have k2 : (p < (G2.turn q 5 true (ofBytes s ++ [.int .u8 c.toNat])).floor) = False := by
      have : (G2.turn q 5 true (ofBytes s ++ [.int .u8 c.toNat])).floor = G2.floor := rfl
      rw [this]; simp; omega
    refine ⟨(G2.turn q 5 true (ofBytes s ++ [.int .u8 c.toNat])).put p ⟨[.ptr p 0, .sl G2.next 0 1 (s.length + 1) none], false, 51, true, true⟩, ?_, ⟨(hG2N.turn _ _ _ _).put _ _, by show G2.floor ≤ p; omega, hmp, by show p < G2.next + 1; omega, .inr ⟨G2.next, by omega, by show G2.floor ≤ G2.next; omega, by omega, by show G2.next < G2.next + 1; omega, ?_, ?_, ?_⟩⟩, hG2f, by show H.next ≤ G2.next + 1; omega, fun i hi => ?_⟩
    · refine ecall_W 6 [] _ _ (out := [.nili]) rfl rfl rfl ?_
      simp only [Tryd.fn23, AmR, number, Nat.reduceAdd]
      simp only [Tryd.fn23_r0, AmR, kp, exe, Arg.val, Env.at, lk, putd, ok1, Option.getD_some, if_true, if_false, reduceCtorEq, Nat.reduceEqDiff]
      simp only [Tryd.fn23_r1, hc, AmR, kp, exe, Arg.val, Env.at, lk, putd, ok1, Option.getD_some, if_true, if_false, reduceCtorEq, Nat.reduceEqDiff, List.map_cons, List.map_nil]
      simp only [Tryd.fn23_r2, hp, hG2, takeFrom, c1, ha, List.length_cons, List.length_nil, AmR, kp, exe, Arg.val, Env.at, lk, putd, AV.cells?, ok1, okM, Option.getD_some, if_true, if_false, List.getElem?_cons_zero, List.getElem?_cons_succ, reduceCtorEq, Nat.reduceEqDiff, Nat.reduceAdd, Nat.reduceMul, Bool.true_eq_false, and_true, List.append_nil, Nat.reduceLeDiff, List.map_cons, List.map_nil, putAt, solid, List.all_cons, List.all_nil, Bool.and_self, List.length_cons, List.length_nil, afill, rep, List.reduceReplicate, List.flatten_cons, List.flatten_nil, List.set_cons_zero]
      simp only [Tryd.fn23_r3, k1, k2, AH.store, and_self, AmR, kp, exe, Arg.val, Env.at, lk, putd, AV.cells?, Option.getD_some, if_true, if_false, Nat.reduceEqDiff, Nat.reduceAdd, Bool.false_eq_true, Nat.reduceLeDiff, putAt, solid, List.all_cons, List.all_nil, Bool.and_self, List.length_cons, List.length_nil, Option.map_some, List.set_cons_zero, List.set_cons_succ]
      simp only [Tryd.fn23_r4, exactK_ret, AmR, kp, exe, Arg.val, Env.at, lk, putd, ok1, Option.getD_some, if_true, resAll, resOf, and_true]
    · rw [List.length_append]; simp
    · rw [get_put, if_pos rfl, k1, List.length_append]; rfl
    · rw [get_put, if_neg (by omega), get_turn, if_pos rfl, ← ob, ofBytes_append]
    · rw [get_put, if_neg (by omega), get_turn, if_neg (by omega), if_neg (by omega), ← hG2, get_push_old _ _ _ _ (by omega)]

theorem SB.stringK {m : Nat} {H : AH} {p : Nat} {s : List UInt8} (h : SB m H p s) (hlen : s.length ≤ 140737488351232) : ∃ H', Tryd.call 24 [.ptr p 0] H = some (.ok (.str s), H') ∧ Kept m H H' ∧ Names H' := by
  obtain ⟨hN, hfp, hmp, hpn, h⟩ := h
  have hnew := hN.new
  rcases h with ⟨rfl, hp⟩ | ⟨q, hqp, hfq, hmq, hqn, hs0, hp, hq⟩
  · refine ⟨H, ?_, Kept.refl _ _, hN⟩
    refine ecall_W 6 [] _ _ (out := [.str []]) rfl rfl rfl ?_
    have hp' : lk H.blks p = some ⟨[.nilp, .nils], false, 51, true, true⟩ := hp
    simp only [Tryd.fn24, AmR, number]
    simp only [Tryd.fn24_r0, AmR, kp, exe, Arg.val, Env.at, lk, putd, ok1, Option.getD_some, if_true, if_false, reduceCtorEq]
    refine W_drawn' (by kernel_rfl) ?_
    simp only [Tryd.fn24_r1, Tryd.fn24_r1a, hp', hnew, AmR, kp, exe, Arg.val, Env.at, lk, putd, ok1, okM, AH.get, Option.getD_some, if_true, if_false, List.getElem?_cons_zero, List.getElem?_cons_succ, reduceCtorEq, Nat.reduceEqDiff, Nat.reduceAdd, resAll, resOf, and_true, List.nil_append, visH, List.filter_nil, List.flatMap_nil, List.contains_cons, List.contains_nil, Bool.or_false, Option.map_some, Int.cast_ofNat_Int, ↓exe_lenl, lenS_nils]
  · refine ⟨H.kill q, ?_, ⟨rfl, Nat.le_refl _, fun i hi => by rw [get_del, if_neg (by omega)]⟩, fun x hx => hN x (mem_del hx)⟩
    refine ecall_W 6 [] _ _ (out := [.str s]) rfl rfl rfl ?_
    have hp' : lk H.blks p = some ⟨[.ptr p 0, .sl q 0 1 s.length none], false, 51, true, true⟩ := hp
    have hq' : lk H.blks q = some ⟨ofBytes s, false, 5, false, true⟩ := hq
    simp only [Tryd.fn24, AmR, number]
    simp only [Tryd.fn24_r0, AmR, kp, exe, Arg.val, Env.at, lk, putd, ok1, Option.getD_some, if_true, if_false, reduceCtorEq]
    refine W_drawn' (by kernel_rfl) ?_
    simp only [Tryd.fn24_r1, Tryd.fn24_r1a, hp', hnew, hs0, AmR, exe, Arg.val, Env.at, lk, putd, ok1, okM, AH.get, Option.getD_some, if_true, if_false, List.getElem?_cons_zero, List.getElem?_cons_succ, reduceCtorEq, Nat.reduceEqDiff, Nat.reduceAdd, true_and, List.nil_append, visH, List.filter_nil, List.flatMap_nil, List.contains_cons, List.contains_nil, Bool.or_false, AH.cellsAt, List.drop_zero, Option.map_some, ↓exe_lenl, lenS_sl]
    have c1 : (5 : Nat) = 5 ∧ false = false ∧ true = true ∧ H.floor ≤ q ∧ (0 : Int) < (s.length : Int) ∧ (s.length : Int) ≤ 140737488351232 := ⟨rfl, rfl, rfl, hfq, by omega, by omega⟩
    have c2 : 0 + s.length ≤ (ofBytes s).length := by rw [ofBytes_length]; omega
    have c3 : (ofBytes s).take s.length = ofBytes s := List.take_of_length_le (by rw [ofBytes_length]; omega)
    simp only [hq', hfq, Int.toNat_natCast, c2, c3, toBytes_of, c1.2.2.2.2.1, c1.2.2.2.2.2, AmR, kp, exe, Arg.val, Env.at, lk, putd, ok1, Option.getD_some, if_true, if_false, reduceCtorEq, Nat.reduceEqDiff, Nat.reduceAdd, resAll, resOf, and_true, List.nil_append, visH, List.flatMap_nil, Option.map_some]

end Go.Am
