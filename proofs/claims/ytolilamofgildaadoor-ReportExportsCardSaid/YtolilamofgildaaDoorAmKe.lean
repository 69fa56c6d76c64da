/-
Contracts of strings.Builder's methods. Conditions: the builder holds what it holds.
-/
import Derived.Test.YtolilamofgildaaDoorAmKd
import Derived.Test.YtolilamofgildaaDoorAmW
set_option linter.unusedSimpArgs false
set_option linter.unusedVariables false
namespace Go.Am

/-- Behind a byte written to a builder that has a buffer. -/
def wrote (H : AH) (p q : Nat) (c : List AV) (s : List UInt8) (new : List AV) : AH :=
  ((H.push 5 true c).turn q 5 true (ofBytes s ++ new)).put p ⟨[.ptr p 0, .sl (H.next + 1) 0 1 (s.length + new.length) none], false, 51, true, true⟩

theorem Tryd.writeByte (H : AH) (p q : Nat) (s : List UInt8) (c : Int) (hqp : q ≠ p) (hfq : H.floor ≤ q) (hfp : H.floor ≤ p) (hpn : p < H.next) (hqn : q < H.next) (hlen : s.length ≤ 1000000)
    (hp : H.get p = some ⟨[.ptr p 0, .sl q 0 1 s.length none], false, 51, true, true⟩) (hq : H.get q = some ⟨ofBytes s, false, 5, false, true⟩) :
    Tryd.call 23 [.ptr p 0, .int .u8 c] H = some (.ok .nili, wrote H p q [.int .u8 c] s [.int .u8 c]) := by
  refine ecall_W 6 [] _ _ (out := [.nili]) rfl rfl rfl ?_
  have hc := Tryd.copyCheck H p _ hp
  unfold Tryd.call at hc
  have g1 : (H.push 5 true [.int .u8 c]).get p = _ := (get_push_old H 5 true [.int .u8 c] hpn).trans hp
  have g2 : (H.push 5 true [.int .u8 c]).get q = _ := (get_push_old H 5 true [.int .u8 c] hqn).trans hq
  have g3 := get_push_new H 5 true [.int .u8 c]
  simp only [Tryd.fn23, AmR, number, Nat.reduceAdd]
  simp only [Tryd.fn23_r0, AmR, kp, exe, Arg.val, Env.at, lk, putd, ok1, Option.getD_some, if_true, if_false, reduceCtorEq, Nat.reduceEqDiff]
  simp only [Tryd.fn23_r1, hc, AmR, kp, exe, Arg.val, Env.at, lk, putd, ok1, Option.getD_some, if_true, if_false, reduceCtorEq, Nat.reduceEqDiff, List.map_cons, List.map_nil]
  have ha := aapp_own (H := H.push 5 true [.int .u8 c]) (new := [.int .u8 c]) g2 hfq (by simp) (by simp; omega)
  simp only [Tryd.fn23_r2, hp, g3, takeFrom, ha, AH.cellsAt, AmR, kp, exe, Arg.val, Env.at, lk, putd, AV.cells?, ok1, okM, Option.getD_some, if_true, if_false, List.getElem?_cons_zero, List.getElem?_cons_succ, reduceCtorEq, Nat.reduceEqDiff, Nat.reduceAdd, Nat.reduceMul, Bool.true_eq_false, and_true, List.append_nil, Nat.reduceLeDiff, List.map_cons, List.map_nil, putAt, solid, List.all_cons, List.all_nil, Bool.and_self, List.length_cons, List.length_nil, List.drop_zero, List.take_succ_cons, List.take_zero, afill, rep, List.reduceReplicate, List.flatten_cons, List.flatten_nil, List.set_cons_zero]
  have k1 : ((H.push 5 true [.int .u8 c]).turn q 5 true (ofBytes s ++ [.int .u8 c])).get p = some ⟨[.ptr p 0, .sl q 0 1 s.length none], false, 51, true, true⟩ := by
    rw [get_turn, if_neg (by show ¬ p = H.next + 1; omega), if_neg (Ne.symm hqp), g1]
  have k2 : (p < ((H.push 5 true [.int .u8 c]).turn q 5 true (ofBytes s ++ [.int .u8 c])).floor) = False := by
    have : ((H.push 5 true [.int .u8 c]).turn q 5 true (ofBytes s ++ [.int .u8 c])).floor = H.floor := rfl
    rw [this]; simp; omega
  simp only [Tryd.fn23_r3, AH.store, k1, k2, AmR, kp, exe, Arg.val, Env.at, lk, putd, AV.cells?, Option.getD_some, if_true, if_false, Nat.reduceEqDiff, Nat.reduceAdd, Bool.false_eq_true, and_true, Nat.reduceLeDiff, putAt, solid, List.all_cons, List.all_nil, Bool.and_self, List.length_cons, List.length_nil, Option.map_some, List.set_cons_zero, List.set_cons_succ]
  simp only [Tryd.fn23_r4, AmR, kp, exe, Arg.val, Env.at, lk, putd, ok1, Option.getD_some, if_true, resAll, resOf, true_and]
  rfl

/-- A fresh builder behind its first byte. -/
def wrote1 (H : AH) (p : Nat) (c : List AV) : AH :=
  (((H.put p ⟨[.ptr p 0, .nils], false, 51, true, true⟩).push 5 true c).push 5 false c).put p ⟨[.ptr p 0, .sl (H.next + 1) 0 1 c.length none], false, 51, true, true⟩

theorem Tryd.writeByte1 (H : AH) (p : Nat) (c : Int) (hfp : H.floor ≤ p) (hpn : p < H.next) (hp : H.get p = some ⟨[.nilp, .nils], false, 51, true, true⟩) :
    Tryd.call 23 [.ptr p 0, .int .u8 c] H = some (.ok .nili, wrote1 H p [.int .u8 c]) := by
  refine ecall_W 6 [] _ _ (out := [.nili]) rfl rfl rfl ?_
  have hc := Tryd.copyCheckNew H p _ hfp hp
  unfold Tryd.call at hc
  generalize hG : H.put p ⟨[.ptr p 0, .nils], false, 51, true, true⟩ = G at hc
  have hGn : G.next = H.next := by rw [← hG]; rfl
  have hGf : G.floor = H.floor := by rw [← hG]; rfl
  have g0 : G.get p = some ⟨[.ptr p 0, .nils], false, 51, true, true⟩ := by rw [← hG, get_put, if_pos rfl, hp]; rfl
  have g1 : (G.push 5 true [.int .u8 c]).get p = _ := (get_push_old G 5 true [.int .u8 c] (by omega)).trans g0
  have g3 := get_push_new G 5 true [.int .u8 c]
  have k1 : ((G.push 5 true [.int .u8 c]).push 5 false [.int .u8 c]).get p = _ := (get_push_old (G.push 5 true [.int .u8 c]) 5 false [.int .u8 c] (by show p < G.next + 1; omega)).trans g1
  have k2 : (p < ((G.push 5 true [.int .u8 c]).push 5 false [.int .u8 c]).floor) = False := by
    have : ((G.push 5 true [.int .u8 c]).push 5 false [.int .u8 c]).floor = G.floor := rfl
    rw [this]; simp; omega
  simp only [Tryd.fn23, AmR, number, Nat.reduceAdd]
  simp only [Tryd.fn23_r0, AmR, kp, exe, Arg.val, Env.at, lk, putd, ok1, Option.getD_some, if_true, if_false, reduceCtorEq, Nat.reduceEqDiff]
  simp only [Tryd.fn23_r1, hc, AmR, kp, exe, Arg.val, Env.at, lk, putd, ok1, Option.getD_some, if_true, if_false, reduceCtorEq, Nat.reduceEqDiff, List.map_cons, List.map_nil]
  simp only [Tryd.fn23_r2, g0, g3, takeFrom, aapp, AH.cellsAt, Nat.div_one, Nat.reduceMod, and_self, not_false_eq_true, AmR, kp, exe, Arg.val, Env.at, lk, putd, AV.cells?, ok1, okM, Option.getD_some, if_true, if_false, List.getElem?_cons_zero, List.getElem?_cons_succ, reduceCtorEq, Nat.reduceEqDiff, Nat.reduceAdd, Nat.reduceMul, Bool.true_eq_false, List.append_nil, Nat.reduceLeDiff, List.map_cons, List.map_nil, putAt, solid, List.all_cons, List.all_nil, Bool.and_self, List.length_cons, List.length_nil, List.drop_zero, List.take_succ_cons, List.take_zero, afill, rep, List.reduceReplicate, List.flatten_cons, List.flatten_nil, List.set_cons_zero]
  simp only [Tryd.fn23_r3, AH.store, k1, k2, AmR, kp, exe, Arg.val, Env.at, lk, putd, AV.cells?, Option.getD_some, if_true, if_false, Nat.reduceEqDiff, Nat.reduceAdd, Bool.false_eq_true, and_true, Nat.reduceLeDiff, putAt, solid, List.all_cons, List.all_nil, Bool.and_self, List.length_cons, List.length_nil, Option.map_some, List.set_cons_zero, List.set_cons_succ]
  simp only [Tryd.fn23_r4, AmR, kp, exe, Arg.val, Env.at, lk, putd, ok1, Option.getD_some, if_true, resAll, resOf, true_and]
  subst hG
  rfl

/-- Behind a string written to a builder that has a buffer. -/
def wroteS (H : AH) (p q : Nat) (s t : List UInt8) : AH :=
  (H.turn q 5 true (ofBytes s ++ ofBytes t)).put p ⟨[.ptr p 0, .sl H.next 0 1 (s.length + t.length) none], false, 51, true, true⟩

theorem Tryd.writeString (H : AH) (p q : Nat) (s t : List UInt8) (hqp : q ≠ p) (hfq : H.floor ≤ q) (hfp : H.floor ≤ p) (hpn : p < H.next) (hlen : s.length + t.length ≤ 1000000) (ht : ofBytes t ≠ [])
    (hp : H.get p = some ⟨[.ptr p 0, .sl q 0 1 s.length none], false, 51, true, true⟩) (hq : H.get q = some ⟨ofBytes s, false, 5, false, true⟩) :
    Tryd.call 30 [.ptr p 0, .str t] H = some (.ok (.tup [.int .i64 t.length, .nili]), wroteS H p q s t) := by
  refine ecall_W 6 [] _ _ (out := [.int .i64 t.length, .nili]) rfl rfl rfl ?_
  have hc := Tryd.copyCheck H p _ hp
  unfold Tryd.call at hc
  have ha := aapp_own (H := H) (new := ofBytes t) hq hfq ht (by rw [ofBytes_length]; omega)
  have k1 : (H.turn q 5 true (ofBytes s ++ ofBytes t)).get p = some ⟨[.ptr p 0, .sl q 0 1 s.length none], false, 51, true, true⟩ := by
    rw [get_turn, if_neg (by omega), if_neg (Ne.symm hqp), hp]
  have k2 : (p < (H.turn q 5 true (ofBytes s ++ ofBytes t)).floor) = False := by
    have : (H.turn q 5 true (ofBytes s ++ ofBytes t)).floor = H.floor := rfl
    rw [this]; simp; omega
  simp only [Tryd.fn30, AmR, number, Nat.reduceAdd]
  simp only [Tryd.fn30_r0, AmR, kp, exe, Arg.val, Env.at, lk, putd, ok1, Option.getD_some, if_true, if_false, reduceCtorEq, Nat.reduceEqDiff]
  simp only [Tryd.fn30_r1, hc, AmR, kp, exe, Arg.val, Env.at, lk, putd, ok1, Option.getD_some, if_true, if_false, reduceCtorEq, Nat.reduceEqDiff, List.map_cons, List.map_nil]
  simp only [Tryd.fn30_r2, hp, takeFrom, ha, AH.store, ofBytes_solid, ofBytes_length, k1, k2, AmR, kp, exe, Arg.val, Env.at, lk, putd, AV.cells?, ok1, okM, Option.getD_some, if_true, if_false, List.getElem?_cons_zero, List.getElem?_cons_succ, reduceCtorEq, Nat.reduceEqDiff, Nat.reduceAdd, Bool.false_eq_true, Bool.true_eq_false, and_true, Nat.reduceLeDiff, putAt, solid, List.all_cons, List.all_nil, Bool.and_self, List.length_cons, List.length_nil, Option.map_some, List.set_cons_zero, List.set_cons_succ]
  simp only [Tryd.fn30_r3, AmR, kp, exe, Arg.val, Env.at, lk, putd, ok1, Option.getD_some, if_true, if_false, Nat.reduceEqDiff, resAll, resOf, true_and]
  rfl

end Go.Am
