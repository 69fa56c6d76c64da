/-
strings.Builder: what is written with WriteString. Conditions: the builder holds what it holds.
-/
import Derived.Test.YtolilamofgildaaDoorAmC0
set_option linter.unusedSimpArgs false
set_option linter.unusedVariables false
namespace Go.Am

theorem Tryd.noEscape (v : AV) (H : AH) : ecall 6 [] (lk Tryd.ext) (lk Tryd.tab) 58 [v] H = some (.ok v, H) := ecall_ext 6 [] _ _ (g := gSame) rfl [v] H rfl

theorem Tryd.copyCheck (H : AH) (p : Nat) (buf : AV) (hp : H.get p = some ⟨[.ptr p 0, buf], false, 51, true, true⟩) : Tryd.call 42 [.ptr p 0] H = some (.ok (.tup []), H) := by
  refine ecall_W 6 [] _ _ (out := []) rfl rfl rfl ?_
  simp only [Tryd.fn42, AmR, number]
  simp only [Tryd.fn42_r0, hp, AmR, kp, pushA, exe, Arg.val, Env.at, lk, putd, ok1, okM, Option.getD_some, if_true, if_false, List.getElem?_cons_zero, reduceCtorEq, Nat.reduceEqDiff, Nat.reduceAdd, Option.map_some, aeqv, aeq, bne_self_eq_false]
  simp only [Tryd.fn42_r2, hp, AmR, kp, pushA, exe, Arg.val, Env.at, lk, putd, ok1, okM, Option.getD_some, if_true, if_false, List.getElem?_cons_zero, reduceCtorEq, Nat.reduceEqDiff, Nat.reduceAdd, resAll, and_true, Nat.reduceBEq, Option.map_some, aeqv, aeq, bne_self_eq_false]

theorem Tryd.copyCheckNew (H : AH) (p : Nat) (buf : AV) (hfl : H.floor ≤ p) (hp : H.get p = some ⟨[.nilp, buf], false, 51, true, true⟩) : Tryd.call 42 [.ptr p 0] H = some (.ok (.tup []), H.put p ⟨[.ptr p 0, buf], false, 51, true, true⟩) := by
  refine ecall_W 6 [] _ _ (out := []) rfl rfl rfl ?_
  have h1 : (p < H.floor) = False := by simp; omega
  simp only [Tryd.fn42, AmR, number]
  simp only [Tryd.fn42_r0, hp, AmR, kp, pushA, exe, Arg.val, Env.at, lk, putd, ok1, okM, Option.getD_some, if_true, if_false, List.getElem?_cons_zero, Bool.not_false, reduceCtorEq, Nat.reduceEqDiff, Nat.reduceAdd, Option.map_some, aeqv, aeq, Bool.true_bne]
  simp only [Tryd.fn42_r1, hp, h1, Tryd.noEscape, AH.store, AmR, kp, exe, Arg.val, Env.at, lk, putd, AV.cells?, ok1, Option.getD_some, if_true, if_false, reduceCtorEq, Nat.reduceEqDiff, Nat.reduceAdd, Nat.reduceLT, Bool.false_eq_true, resAll, and_true, Nat.reduceLeDiff, List.map_cons, List.map_nil, putAt, solid, List.all_cons, List.all_nil, Bool.and_self, List.length_cons, List.length_nil, Option.map_some, List.set_cons_zero]

/-- A builder at p that holds s; it and its buffer lie from m on. -/
def SB (m : Nat) (H : AH) (p : Nat) (s : List UInt8) : Prop :=
  Names H ∧ H.floor ≤ p ∧ m ≤ p ∧ p < H.next ∧
  ((s = [] ∧ H.get p = some ⟨[.nilp, .nils], false, 51, true, true⟩) ∨
   (∃ q, q ≠ p ∧ H.floor ≤ q ∧ m ≤ q ∧ q < H.next ∧ 0 < s.length ∧ H.get p = some ⟨[.ptr p 0, .sl q 0 1 s.length none], false, 51, true, true⟩ ∧ H.get q = some ⟨ofBytes s, false, 5, false, true⟩))

theorem SB.write {m : Nat} {H : AH} {p : Nat} {s : List UInt8} (h : SB m H p s) (hmn : m ≤ H.next) (t : List UInt8) (h0 : t ≠ []) (hl : s.length + t.length ≤ 70368744177664) :
    ∃ H', Tryd.call 30 [.ptr p 0, .str t] H = some (.ok (.tup [.int .i64 t.length, .nili]), H') ∧ SB m H' p (s ++ t) ∧ H'.floor = H.floor ∧ H.next ≤ H'.next ∧ ∀ i, i < m → H'.get i = H.get i := by
  obtain ⟨hN, hfp, hmp, hpn, h⟩ := h
  have ht : ofBytes t ≠ [] := by cases t with | nil => exact absurd rfl h0 | cons _ _ => simp [ofBytes]
  rcases h with ⟨rfl, hp⟩ | ⟨q, hqp, hfq, hmq, hqn, hs0, hp, hq⟩
  · have hc := Tryd.copyCheckNew H p _ hfp hp
    unfold Tryd.call at hc
    generalize hG : H.put p ⟨[.ptr p 0, .nils], false, 51, true, true⟩ = G at hc
    have hGn : G.next = H.next := by rw [← hG]; rfl
    have hGf : G.floor = H.floor := by rw [← hG]; rfl
    have hGN : Names G := by rw [← hG]; exact hN.put _ _
    have g0 : G.get p = some ⟨[.ptr p 0, .nils], false, 51, true, true⟩ := by rw [← hG, get_put, if_pos rfl, hp]; rfl
    have g1 : (G.push 5 false (ofBytes t)).get p = _ := (get_push_old G 5 false (ofBytes t) (by omega)).trans g0
    have k2 : (p < (G.push 5 false (ofBytes t)).floor) = False := by
      have : (G.push 5 false (ofBytes t)).floor = G.floor := rfl
      rw [this]; simp; omega
    have b1 : t.length * 2 ≤ 140737488355328 := by simp only [List.length_nil] at hl; omega
    refine ⟨(G.push 5 false (ofBytes t)).put p ⟨[.ptr p 0, .sl G.next 0 1 t.length none], false, 51, true, true⟩, ?_, ⟨(hGN.push _ _ _).put _ _, by show G.floor ≤ p; omega, hmp, by show p < G.next + 1; omega, .inr ⟨G.next, by omega, by show G.floor ≤ G.next; omega, by omega, by show G.next < G.next + 1; omega, ?_, ?_, ?_⟩⟩, hGf, by show H.next ≤ G.next + 1; omega, fun i hi => ?_⟩
    · refine ecall_W 6 [] _ _ (out := [.int .i64 t.length, .nili]) rfl rfl rfl ?_
      simp only [Tryd.fn30, AmR, number, Nat.reduceAdd]
      simp only [Tryd.fn30_r0, AmR, kp, exe, Arg.val, Env.at, lk, putd, ok1, Option.getD_some, if_true, if_false, reduceCtorEq, Nat.reduceEqDiff]
      simp only [Tryd.fn30_r1, hc, AmR, kp, exe, Arg.val, Env.at, lk, putd, ok1, Option.getD_some, if_true, if_false, reduceCtorEq, Nat.reduceEqDiff, List.map_cons, List.map_nil]
      simp only [Tryd.fn30_r2, g0, takeFrom, aapp, AH.store, ofBytes_solid, ofBytes_length, Nat.div_one, Nat.mod_one, b1, ht, not_false_eq_true, and_self, g1, k2, AmR, kp, exe, Arg.val, Env.at, lk, putd, AV.cells?, ok1, okM, Option.getD_some, if_true, if_false, List.getElem?_cons_zero, List.getElem?_cons_succ, reduceCtorEq, Nat.reduceEqDiff, Nat.reduceAdd, Bool.false_eq_true, Bool.true_eq_false, Nat.reduceLeDiff, putAt, solid, List.all_cons, List.all_nil, Bool.and_self, List.length_cons, List.length_nil, Option.map_some, List.set_cons_zero, List.set_cons_succ]
      simp only [Tryd.fn30_r3, AmR, kp, exe, Arg.val, Env.at, lk, putd, ok1, Option.getD_some, if_true, if_false, Nat.reduceEqDiff, resAll, resOf, and_true]
    · rw [List.nil_append]; exact List.length_pos_iff.2 h0
    · rw [get_put, if_pos rfl, g1]; rfl
    · rw [get_put, if_neg (by omega)]; exact get_push_new _ _ _ _
    · rw [get_put, if_neg (by omega), get_push_old _ _ _ _ (by omega), ← hG, get_put, if_neg (by omega)]
  · have hc := Tryd.copyCheck H p _ hp
    unfold Tryd.call at hc
    have ha := aapp_own (H := H) (new := ofBytes t) hq hfq ht (by rw [ofBytes_length]; omega)
    have k1 : (H.turn q 5 true (ofBytes s ++ ofBytes t)).get p = some ⟨[.ptr p 0, .sl q 0 1 s.length none], false, 51, true, true⟩ := by
      rw [get_turn, if_neg (by omega), if_neg (Ne.symm hqp), hp]
    have k2 : (p < (H.turn q 5 true (ofBytes s ++ ofBytes t)).floor) = False := by
      have : (H.turn q 5 true (ofBytes s ++ ofBytes t)).floor = H.floor := rfl
      rw [this]; simp; omega
    refine ⟨(H.turn q 5 true (ofBytes s ++ ofBytes t)).put p ⟨[.ptr p 0, .sl H.next 0 1 (s.length + t.length) none], false, 51, true, true⟩, ?_, ⟨(hN.turn _ _ _ _).put _ _, hfp, hmp, by show p < H.next + 1; omega, .inr ⟨H.next, by omega, by show H.floor ≤ H.next; omega, by omega, by show H.next < H.next + 1; omega, ?_, ?_, ?_⟩⟩, rfl, Nat.le_succ _, fun i hi => ?_⟩
    · refine ecall_W 6 [] _ _ (out := [.int .i64 t.length, .nili]) rfl rfl rfl ?_
      simp only [Tryd.fn30, AmR, number, Nat.reduceAdd]
      simp only [Tryd.fn30_r0, AmR, kp, exe, Arg.val, Env.at, lk, putd, ok1, Option.getD_some, if_true, if_false, reduceCtorEq, Nat.reduceEqDiff]
      simp only [Tryd.fn30_r1, hc, AmR, kp, exe, Arg.val, Env.at, lk, putd, ok1, Option.getD_some, if_true, if_false, reduceCtorEq, Nat.reduceEqDiff, List.map_cons, List.map_nil]
      simp only [Tryd.fn30_r2, hp, takeFrom, ha, AH.store, ofBytes_solid, ofBytes_length, k1, k2, AmR, kp, exe, Arg.val, Env.at, lk, putd, AV.cells?, ok1, okM, Option.getD_some, if_true, if_false, List.getElem?_cons_zero, List.getElem?_cons_succ, reduceCtorEq, Nat.reduceEqDiff, Nat.reduceAdd, Bool.false_eq_true, Bool.true_eq_false, and_true, Nat.reduceLeDiff, putAt, solid, List.all_cons, List.all_nil, Bool.and_self, List.length_cons, List.length_nil, Option.map_some, List.set_cons_zero, List.set_cons_succ]
      simp only [Tryd.fn30_r3, AmR, kp, exe, Arg.val, Env.at, lk, putd, ok1, Option.getD_some, if_true, if_false, Nat.reduceEqDiff, resAll, resOf, and_true]
    · rw [List.length_append]; omega
    · rw [get_put, if_pos rfl, k1, List.length_append]; rfl
    · rw [get_put, if_neg (by omega), get_turn, if_pos rfl, ofBytes_append]
    · rw [get_put, if_neg (by omega), get_turn, if_neg (by omega), if_neg (by omega)]

theorem SB.string {m : Nat} {H : AH} {p : Nat} {s : List UInt8} (h : SB m H p s) (hlen : s.length ≤ 140737488351232) : ∃ H', Tryd.call 24 [.ptr p 0] H = some (.ok (.str s), H') := by
  obtain ⟨hN, hfp, hmp, hpn, h⟩ := h
  have hnew := hN.new
  rcases h with ⟨rfl, hp⟩ | ⟨q, hqp, hfq, hmq, hqn, hs0, hp, hq⟩
  · refine ⟨H, ?_⟩
    refine ecall_W 6 [] _ _ (out := [.str []]) rfl rfl rfl ?_
    have hp' : lk H.blks p = some ⟨[.nilp, .nils], false, 51, true, true⟩ := hp
    simp only [Tryd.fn24, AmR, number]
    simp only [Tryd.fn24_r0, AmR, kp, exe, Arg.val, Env.at, lk, putd, ok1, Option.getD_some, if_true, if_false, reduceCtorEq]
    refine W_drawn' (by kernel_rfl) ?_
    simp only [Tryd.fn24_r1, Tryd.fn24_r1a, hp', hnew, AmR, kp, exe, Arg.val, Env.at, lk, putd, ok1, okM, AH.get, Option.getD_some, if_true, if_false, List.getElem?_cons_zero, List.getElem?_cons_succ, reduceCtorEq, Nat.reduceEqDiff, Nat.reduceAdd, resAll, resOf, and_true, List.nil_append, visH, List.filter_nil, List.flatMap_nil, List.contains_cons, List.contains_nil, Bool.or_false, Option.map_some, Int.cast_ofNat_Int, ↓exe_lenl, lenS_nils]
  · refine ⟨H.kill q, ?_⟩
    refine ecall_W 6 [] _ _ (out := [.str s]) rfl rfl rfl ?_
    have hp' : lk H.blks p = some ⟨[.ptr p 0, .sl q 0 1 s.length none], false, 51, true, true⟩ := hp
    have hq' : lk H.blks q = some ⟨ofBytes s, false, 5, false, true⟩ := hq
    simp only [Tryd.fn24, AmR, number]
    simp only [Tryd.fn24_r0, AmR, kp, exe, Arg.val, Env.at, lk, putd, ok1, Option.getD_some, if_true, if_false, reduceCtorEq]
    refine W_drawn' (by kernel_rfl) ?_
    simp only [Tryd.fn24_r1, Tryd.fn24_r1a, hp', hnew, hs0, AmR, exe, Arg.val, Env.at, lk, putd, ok1, okM, AH.get, Option.getD_some, if_true, if_false, List.getElem?_cons_zero, List.getElem?_cons_succ, reduceCtorEq, Nat.reduceEqDiff, Nat.reduceAdd, true_and, List.nil_append, visH, List.filter_nil, List.flatMap_nil, List.contains_cons, List.contains_nil, Bool.or_false, AH.cellsAt, List.drop_zero, Option.map_some, ↓exe_lenl, lenS_sl]
    have c1 : (5 : Nat) = 5 ∧ false = false ∧ true = true ∧ H.floor ≤ q ∧ (0 : Int) < (s.length : Int) ∧ (s.length : Int) ≤ 140737488351232 := ⟨rfl, rfl, rfl, hfq, by omega, by omega⟩
    have c2 : 0 + s.length ≤ (ofBytes s).length := by rw [ofBytes_length]; omega
    have c3 : (ofBytes s).take s.length = ofBytes s := List.take_of_length_le (by rw [ofBytes_length]; omega)
    simp only [hq', hfq, Int.toNat_natCast, c2, c3, toBytes_of, c1.2.2.2.2.1, c1.2.2.2.2.2, AmR, kp, exe, Arg.val, Env.at, lk, putd, ok1, Option.getD_some, if_true, if_false, reduceCtorEq, Nat.reduceEqDiff, Nat.reduceAdd, resAll, resOf, and_true, List.nil_append, visH, List.flatMap_nil, Option.map_some]

end Go.Am
