/-
Texts joined, one after the other. Conditions: those that each theorem names.
-/
import Derived.Test.YtolilamofgildaaGreatDoorAmX2
import Derived.Test.YtolilamofgildaaGreatDoorAmX1
import Derived.IntWalk
import Derived.Test.YtolilamofgildaaGreatDoorMc
import Derived.Lib.ItoaLen
set_option linter.unusedSimpArgs false
set_option linter.unusedVariables false

/- Contracts of the functions on single events. Conditions: none. -/
namespace Go.Am

/-- An event. -/
structure Ev where
  k : Int
  f : Int
  t : Int
  v : Int
  a : Int
  d : List UInt8
  ft : Int
def Ev.cells (x : Ev) : List AV := [.int .i64 x.k, .int .i64 x.f, .int .i64 x.t, .int .i64 x.v, .int .i64 x.a, .str x.d, .int .i64 x.ft]
def Ev.av (x : Ev) : AV := .agg x.cells
def Ev.core (x : Ev) : Ev := { x with f := 0, t := 0 }

def Ev.ok (x : Ev) : Bool := decide (1 ≤ x.k ∧ x.k ≤ 8 ∧ 0 ≤ x.f ∧ x.f ≤ x.t ∧ x.t ≤ 1099511627776 ∧ -9007199254740992 ≤ x.v ∧ x.v ≤ 9007199254740992 ∧ -9007199254740992 ≤ x.a ∧ x.a ≤ 9007199254740992 ∧ (x.d.length : Int) ≤ 4096 ∧ 0 ≤ x.ft ∧ x.ft ≤ 12)

theorem Ev.flat (x : Ev) : x.cells.all flat1 = true := rfl

theorem Tryz.valid (x : Ev) (H : AH) : Tryz.call 33 [x.av] H = some (.ok (.bool x.ok), H) := by
  refine ecall_flat 8 [] _ _ (out := [.bool x.ok]) rfl rfl rfl (views_agg x.flat (views_nil H 8)) rfl ?_
  obtain ⟨k, f, t, v, a, d, ft⟩ := x
  generalize hr : Ev.ok ⟨k, f, t, v, a, d, ft⟩ = r
  simp only [Ev.cells]
  simp only [Tryz.fn33, Tryz.fn33_r0, Tryz.fn33_r1, Tryz.fn33_r2, Tryz.fn33_r3, Tryz.fn33_r4, Tryz.fn33_r5, Tryz.fn33_r6, Tryz.fn33_r7, Tryz.fn33_r8, Tryz.fn33_r9, Tryz.fn33_r10, AmR, kp, pushA, exe, number, Arg.val, Env.at, lk, putd, AV.cells?, ok1, okM, AH.push, AH.get, abin, Option.getD_some, if_true, if_false, List.getElem?_cons_zero, List.getElem?_cons_succ, reduceCtorEq, Nat.reduceEqDiff, Nat.reduceAdd, Bool.false_eq_true, resAll, resOf, Option.some.injEq, List.cons.injEq, AV.bool.injEq, and_true, List.append_nil, Int.reduceNeg]
  subst hr
  simp only [Ev.ok]
  refine ⟨fun _ => ?_, fun _ => ⟨fun _ => ?_, fun _ => ⟨fun _ => ?_, fun _ => ⟨fun _ => ?_, fun _ => ⟨fun _ => ?_, fun _ => ⟨fun _ => ?_, fun _ => ⟨fun _ => ?_, fun _ => ⟨fun _ => ?_, fun _ => ⟨fun _ => ?_, fun _ => ?_⟩⟩⟩⟩⟩⟩⟩⟩⟩
  all_goals first
    | (refine (decide_eq_false ?_).symm; omega)
    | skip
  refine ⟨fun _ => ⟨fun _ => ?_, fun _ => ?_⟩, fun _ => ?_⟩
  · rw [decide_eq_decide]; omega
  · refine (decide_eq_false ?_).symm; omega
  · refine (decide_eq_false ?_).symm; omega

end Go.Am

/- Contracts of the functions on single events, continued. Conditions: those that each theorem names. -/
namespace Go.Am

def plainB (c : Int) : Bool := decide (32 ≤ c ∧ c ≤ 126 ∧ c ≠ 34 ∧ c ≠ 92)

theorem Tryz.plain (c : Int) (H : AH) : Tryz.call 52 [.int .i32 c] H = some (.ok (.bool (plainB c)), H) := by
  refine ecall_flat 8 [] _ _ (out := [.bool (plainB c)]) rfl rfl rfl (views_flat rfl (views_nil H 8)) rfl ?_
  generalize hr : plainB c = r
  simp only [Tryz.fn52, Tryz.fn52_r0, Tryz.fn52_r1, Tryz.fn52_r2, AmR, Rf_bne, kp, exe, number, Arg.val, Env.at, lk, putd, ok1, okM, abin, Option.getD_some, if_true, if_false, reduceCtorEq, Nat.reduceEqDiff, Bool.false_eq_true, resAll, resOf, Option.some.injEq, List.cons.injEq, AV.bool.injEq, and_true, List.append_nil]
  subst hr
  simp only [plainB]
  repeat' (first | apply And.intro | intro _)
  all_goals first
    | (refine (decide_eq_false ?_).symm; omega)
    | (refine (decide_eq_true ?_).symm; omega)
    | (rw [decide_eq_decide]; omega)
    | skip
  by_cases hc : c = 92
  · simp [hc]
  · have h1 : (c != 92) = true := by simp [hc]
    rw [h1]
    refine (decide_eq_true ?_).symm
    omega

end Go.Am

/- Contracts of the numerals of the specification. Conditions: those that each theorem names. -/
namespace Go.Am

theorem fig_one {u : Nat} (h : u < 10) : (List.take 1 (List.drop u [48, 49, 50, 51, 52, 53, 54, 55, 56, 57]) : List UInt8) = [UInt8.ofNat (48 + u)] := by
  have : u = 0 ∨ u = 1 ∨ u = 2 ∨ u = 3 ∨ u = 4 ∨ u = 5 ∨ u = 6 ∨ u = 7 ∨ u = 8 ∨ u = 9 := by omega
  rcases this with rfl | rfl | rfl | rfl | rfl | rfl | rfl | rfl | rfl | rfl <;> rfl

theorem bnds_some {n m : Nat} {k k' : IntKind} {l h : Int} (h0 : 0 ≤ l) (h1 : l ≤ h) (h2 : h ≤ (m : Int)) : bnds n m (some (.int k l)) (some (.int k' h)) = some (l.toNat, h.toNat) := by
  have a1 : (0 : Int) ≤ h ∧ h ≤ (m : Int) := ⟨by omega, h2⟩
  have a2 : (0 : Int) ≤ l ∧ l ≤ ((h.toNat : Nat) : Int) := ⟨h0, by omega⟩
  simp only [bnds, bnd, a1, and_self, if_true, a2]

theorem decDigits_len (u : Nat) (k : Nat) (h : u < 10 ^ (k + 1)) : (Lib.decDigits u).length ≤ k + 1 := by
  induction k generalizing u with
  | zero => rw [Lib.decDigits, dif_pos (by simpa using h)]; simp
  | succ k ih =>
    rw [Lib.decDigits]
    split
    · simp
    · have : u / 10 < 10 ^ (k + 1) := by rw [Nat.pow_succ] at h; omega
      have := ih (u / 10) this
      simp; omega

end Go.Am

/- Contracts of the names of the kinds. Conditions: none. -/
namespace Go.Am

def kindNames : List (List UInt8) := [[108, 101, 118, 101, 108], [98, 105, 116], [98, 121, 116, 101], [109, 97, 114, 107], [102, 114, 97, 109, 101], [112, 97, 99, 107, 101, 116], [99, 111, 109, 109, 97, 110, 100], [112, 97, 105, 114]]
def kindBlk : Blk := ⟨kindNames.map .str, false, 9, true, true⟩

theorem Tryz.kinds (H : AH) : Tryz.call 34 [] H = some (.ok (.sl H.next 0 1 8 (some 8)), H.take1 kindBlk) := by
  refine ecall_slice 8 [] _ _ (b := kindBlk) (out := []) rfl rfl rfl (views_nil H 8) rfl rfl rfl ?_
  simp only [Tryz.fn34, Tryz.fn34_r0, Tryz.fn34_r1, AmR, kp, exe, number, Arg.val, Env.at, lk, putd, AV.cells?, ok1, AH.push, AH.get, Option.getD_some, if_true, if_false, reduceCtorEq, Nat.reduceAdd, resAll, resOf, Option.some.injEq, List.cons.injEq, and_true, true_and, List.nil_append, List.append_nil, Nat.reduceLeDiff, List.map_cons, List.map_nil, putAt, List.length_cons, List.length_nil, List.cons_append, afill, rep, AV.sl.injEq, exists_eq_left', List.reduceReplicate, List.flatten_cons, List.flatten_nil, List.set_cons_zero, List.set_cons_succ]
  rfl

end Go.Am

/- Contracts of strings.Builder's methods. Conditions: the builder holds what it holds. -/
namespace Go.Am

/-- Behind a byte written to a builder that has a buffer. -/
def wrote (H : AH) (p q : Nat) (c : List AV) (s : List UInt8) (new : List AV) : AH :=
  ((H.push 5 true c).turn q 5 true (ofBytes s ++ new)).put p ⟨[.ptr p 0, .sl (H.next + 1) 0 1 (s.length + new.length) none], false, 50, true, true⟩

theorem Tryz.writeByte (H : AH) (p q : Nat) (s : List UInt8) (c : Int) (hqp : q ≠ p) (hfq : H.floor ≤ q) (hfp : H.floor ≤ p) (hpn : p < H.next) (hqn : q < H.next) (hlen : s.length ≤ 1000000)
    (hp : H.get p = some ⟨[.ptr p 0, .sl q 0 1 s.length none], false, 50, true, true⟩) (hq : H.get q = some ⟨ofBytes s, false, 5, false, true⟩) :
    Tryz.call 16 [.ptr p 0, .int .u8 c] H = some (.ok .nili, wrote H p q [.int .u8 c] s [.int .u8 c]) := by
  refine ecall_W 8 [] _ _ (out := [.nili]) rfl rfl rfl ?_
  have hc := Tryz.copyCheck H p _ hp
  unfold Tryz.call at hc
  have g1 : (H.push 5 true [.int .u8 c]).get p = _ := (get_push_old H 5 true [.int .u8 c] hpn).trans hp
  have g2 : (H.push 5 true [.int .u8 c]).get q = _ := (get_push_old H 5 true [.int .u8 c] hqn).trans hq
  have g3 := get_push_new H 5 true [.int .u8 c]
  simp only [Tryz.fn16, AmR, number, Nat.reduceAdd]
  simp only [Tryz.fn16_r0, AmR, kp, exe, Arg.val, Env.at, lk, putd, ok1, Option.getD_some, if_true, if_false, reduceCtorEq, Nat.reduceEqDiff]
  simp only [Tryz.fn16_r1, hc, AmR, kp, exe, Arg.val, Env.at, lk, putd, ok1, Option.getD_some, if_true, if_false, reduceCtorEq, Nat.reduceEqDiff, List.map_cons, List.map_nil]
  have ha := aapp_own (H := H.push 5 true [.int .u8 c]) (new := [.int .u8 c]) g2 hfq (by simp) (by simp; omega)
  simp only [Tryz.fn16_r2, hp, g3, takeFrom, ha, AH.cellsAt, AmR, kp, exe, Arg.val, Env.at, lk, putd, AV.cells?, ok1, okM, Option.getD_some, if_true, if_false, List.getElem?_cons_zero, List.getElem?_cons_succ, reduceCtorEq, Nat.reduceEqDiff, Nat.reduceAdd, Nat.reduceMul, Bool.true_eq_false, and_true, List.append_nil, Nat.reduceLeDiff, List.map_cons, List.map_nil, putAt, solid, List.all_cons, List.all_nil, Bool.and_self, List.length_cons, List.length_nil, List.drop_zero, List.take_succ_cons, List.take_zero, afill, rep, List.reduceReplicate, List.flatten_cons, List.flatten_nil, List.set_cons_zero]
  have k1 : ((H.push 5 true [.int .u8 c]).turn q 5 true (ofBytes s ++ [.int .u8 c])).get p = some ⟨[.ptr p 0, .sl q 0 1 s.length none], false, 50, true, true⟩ := by
    rw [get_turn, if_neg (by show ¬ p = H.next + 1; omega), if_neg (Ne.symm hqp), g1]
  have k2 : (p < ((H.push 5 true [.int .u8 c]).turn q 5 true (ofBytes s ++ [.int .u8 c])).floor) = False := by
    have : ((H.push 5 true [.int .u8 c]).turn q 5 true (ofBytes s ++ [.int .u8 c])).floor = H.floor := rfl
    rw [this]; simp; omega
  simp only [Tryz.fn16_r3, AH.store, k1, k2, AmR, kp, exe, Arg.val, Env.at, lk, putd, AV.cells?, Option.getD_some, if_true, if_false, Nat.reduceEqDiff, Nat.reduceAdd, Bool.false_eq_true, and_true, Nat.reduceLeDiff, putAt, solid, List.all_cons, List.all_nil, Bool.and_self, List.length_cons, List.length_nil, Option.map_some, List.set_cons_zero, List.set_cons_succ]
  simp only [Tryz.fn16_r4, AmR, kp, exe, Arg.val, Env.at, lk, putd, ok1, Option.getD_some, if_true, resAll, resOf, true_and]
  rfl

/-- A fresh builder behind its first byte. -/
def wrote1 (H : AH) (p : Nat) (c : List AV) : AH :=
  (((H.put p ⟨[.ptr p 0, .nils], false, 50, true, true⟩).push 5 true c).push 5 false c).put p ⟨[.ptr p 0, .sl (H.next + 1) 0 1 c.length none], false, 50, true, true⟩

theorem Tryz.writeByte1 (H : AH) (p : Nat) (c : Int) (hfp : H.floor ≤ p) (hpn : p < H.next) (hp : H.get p = some ⟨[.nilp, .nils], false, 50, true, true⟩) :
    Tryz.call 16 [.ptr p 0, .int .u8 c] H = some (.ok .nili, wrote1 H p [.int .u8 c]) := by
  refine ecall_W 8 [] _ _ (out := [.nili]) rfl rfl rfl ?_
  have hc := Tryz.copyCheckNew H p _ hfp hp
  unfold Tryz.call at hc
  generalize hG : H.put p ⟨[.ptr p 0, .nils], false, 50, true, true⟩ = G at hc
  have hGn : G.next = H.next := by rw [← hG]; rfl
  have hGf : G.floor = H.floor := by rw [← hG]; rfl
  have g0 : G.get p = some ⟨[.ptr p 0, .nils], false, 50, true, true⟩ := by rw [← hG, get_put, if_pos rfl, hp]; rfl
  have g1 : (G.push 5 true [.int .u8 c]).get p = _ := (get_push_old G 5 true [.int .u8 c] (by omega)).trans g0
  have g3 := get_push_new G 5 true [.int .u8 c]
  have k1 : ((G.push 5 true [.int .u8 c]).push 5 false [.int .u8 c]).get p = _ := (get_push_old (G.push 5 true [.int .u8 c]) 5 false [.int .u8 c] (by show p < G.next + 1; omega)).trans g1
  have k2 : (p < ((G.push 5 true [.int .u8 c]).push 5 false [.int .u8 c]).floor) = False := by
    have : ((G.push 5 true [.int .u8 c]).push 5 false [.int .u8 c]).floor = G.floor := rfl
    rw [this]; simp; omega
  simp only [Tryz.fn16, AmR, number, Nat.reduceAdd]
  simp only [Tryz.fn16_r0, AmR, kp, exe, Arg.val, Env.at, lk, putd, ok1, Option.getD_some, if_true, if_false, reduceCtorEq, Nat.reduceEqDiff]
  simp only [Tryz.fn16_r1, hc, AmR, kp, exe, Arg.val, Env.at, lk, putd, ok1, Option.getD_some, if_true, if_false, reduceCtorEq, Nat.reduceEqDiff, List.map_cons, List.map_nil]
  simp only [Tryz.fn16_r2, g0, g3, takeFrom, aapp, AH.cellsAt, Nat.div_one, Nat.reduceMod, and_self, not_false_eq_true, AmR, kp, exe, Arg.val, Env.at, lk, putd, AV.cells?, ok1, okM, Option.getD_some, if_true, if_false, List.getElem?_cons_zero, List.getElem?_cons_succ, reduceCtorEq, Nat.reduceEqDiff, Nat.reduceAdd, Nat.reduceMul, Bool.true_eq_false, List.append_nil, Nat.reduceLeDiff, List.map_cons, List.map_nil, putAt, solid, List.all_cons, List.all_nil, Bool.and_self, List.length_cons, List.length_nil, List.drop_zero, List.take_succ_cons, List.take_zero, afill, rep, List.reduceReplicate, List.flatten_cons, List.flatten_nil, List.set_cons_zero]
  simp only [Tryz.fn16_r3, AH.store, k1, k2, AmR, kp, exe, Arg.val, Env.at, lk, putd, AV.cells?, Option.getD_some, if_true, if_false, Nat.reduceEqDiff, Nat.reduceAdd, Bool.false_eq_true, and_true, Nat.reduceLeDiff, putAt, solid, List.all_cons, List.all_nil, Bool.and_self, List.length_cons, List.length_nil, Option.map_some, List.set_cons_zero, List.set_cons_succ]
  simp only [Tryz.fn16_r4, AmR, kp, exe, Arg.val, Env.at, lk, putd, ok1, Option.getD_some, if_true, resAll, resOf, true_and]
  subst hG
  rfl

/-- Behind a string written to a builder that has a buffer. -/
def wroteS (H : AH) (p q : Nat) (s t : List UInt8) : AH :=
  (H.turn q 5 true (ofBytes s ++ ofBytes t)).put p ⟨[.ptr p 0, .sl H.next 0 1 (s.length + t.length) none], false, 50, true, true⟩

theorem Tryz.writeString (H : AH) (p q : Nat) (s t : List UInt8) (hqp : q ≠ p) (hfq : H.floor ≤ q) (hfp : H.floor ≤ p) (hpn : p < H.next) (hlen : s.length + t.length ≤ 1000000) (ht : ofBytes t ≠ [])
    (hp : H.get p = some ⟨[.ptr p 0, .sl q 0 1 s.length none], false, 50, true, true⟩) (hq : H.get q = some ⟨ofBytes s, false, 5, false, true⟩) :
    Tryz.call 22 [.ptr p 0, .str t] H = some (.ok (.tup [.int .i64 t.length, .nili]), wroteS H p q s t) := by
  refine ecall_W 8 [] _ _ (out := [.int .i64 t.length, .nili]) rfl rfl rfl ?_
  have hc := Tryz.copyCheck H p _ hp
  unfold Tryz.call at hc
  have ha := aapp_own (H := H) (new := ofBytes t) hq hfq ht (by rw [ofBytes_length]; omega)
  have k1 : (H.turn q 5 true (ofBytes s ++ ofBytes t)).get p = some ⟨[.ptr p 0, .sl q 0 1 s.length none], false, 50, true, true⟩ := by
    rw [get_turn, if_neg (by omega), if_neg (Ne.symm hqp), hp]
  have k2 : (p < (H.turn q 5 true (ofBytes s ++ ofBytes t)).floor) = False := by
    have : (H.turn q 5 true (ofBytes s ++ ofBytes t)).floor = H.floor := rfl
    rw [this]; simp; omega
  simp only [Tryz.fn22, AmR, number, Nat.reduceAdd]
  simp only [Tryz.fn22_r0, AmR, kp, exe, Arg.val, Env.at, lk, putd, ok1, Option.getD_some, if_true, if_false, reduceCtorEq, Nat.reduceEqDiff]
  simp only [Tryz.fn22_r1, hc, AmR, kp, exe, Arg.val, Env.at, lk, putd, ok1, Option.getD_some, if_true, if_false, reduceCtorEq, Nat.reduceEqDiff, List.map_cons, List.map_nil]
  simp only [Tryz.fn22_r2, hp, takeFrom, ha, AH.store, ofBytes_solid, ofBytes_length, k1, k2, AmR, kp, exe, Arg.val, Env.at, lk, putd, AV.cells?, ok1, okM, Option.getD_some, if_true, if_false, List.getElem?_cons_zero, List.getElem?_cons_succ, reduceCtorEq, Nat.reduceEqDiff, Nat.reduceAdd, Bool.false_eq_true, Bool.true_eq_false, and_true, Nat.reduceLeDiff, putAt, solid, List.all_cons, List.all_nil, Bool.and_self, List.length_cons, List.length_nil, Option.map_some, List.set_cons_zero, List.set_cons_succ]
  simp only [Tryz.fn22_r3, AmR, kp, exe, Arg.val, Env.at, lk, putd, ok1, Option.getD_some, if_true, if_false, Nat.reduceEqDiff, resAll, resOf, true_and]
  rfl

end Go.Am

/- A builder's string. Conditions: the builder holds what it holds. -/
namespace Go.Am

theorem Tryz.builderString (H : AH) (p q : Nat) (s : List UInt8) (hN : Names H) (hfq : H.floor ≤ q) (h0 : 0 < s.length) (hlen : s.length ≤ 1000000)
    (hp : H.get p = some ⟨[.ptr p 0, .sl q 0 1 s.length none], false, 50, true, true⟩) (hq : H.get q = some ⟨ofBytes s, false, 5, false, true⟩) :
    Tryz.call 17 [.ptr p 0] H = some (.ok (.str s), H.kill q) := by
  refine ecall_W 8 [] _ _ (out := [.str s]) rfl rfl rfl ?_
  have hp' : lk H.blks p = some ⟨[.ptr p 0, .sl q 0 1 s.length none], false, 50, true, true⟩ := hp
  have hq' : lk H.blks q = some ⟨ofBytes s, false, 5, false, true⟩ := hq
  have hnew := hN.new
  simp only [Tryz.fn17, AmR, number]
  simp only [Tryz.fn17_r0, AmR, kp, exe, Arg.val, Env.at, lk, putd, ok1, Option.getD_some, if_true, if_false, reduceCtorEq]
  refine W_drawn' (by kernel_rfl) ?_
  simp only [Tryz.fn17_r1, Tryz.fn17_r1a, hp', hnew, h0, AmR, exe, Arg.val, Env.at, lk, putd, ok1, okM, AH.get, Option.getD_some, if_true, if_false, List.getElem?_cons_zero, List.getElem?_cons_succ, reduceCtorEq, Nat.reduceEqDiff, Nat.reduceAdd, true_and, List.nil_append, visH, List.filter_nil, List.flatMap_nil, List.contains_cons, List.contains_nil, Bool.or_false, AH.cellsAt, List.drop_zero, Option.map_some, ↓exe_lenl, lenS_sl]
  have c1 : (5 : Nat) = 5 ∧ false = false ∧ true = true ∧ H.floor ≤ q ∧ (0 : Int) < (s.length : Int) ∧ (s.length : Int) ≤ 140737488351232 := ⟨rfl, rfl, rfl, hfq, by omega, by omega⟩
  have c2 : 0 + s.length ≤ (ofBytes s).length := by rw [ofBytes_length]; omega
  have c3 : (ofBytes s).take s.length = ofBytes s := List.take_of_length_le (by rw [ofBytes_length]; omega)
  simp only [hq', hfq, Int.toNat_natCast, c2, c3, toBytes_of, c1.2.2.2.2.1, c1.2.2.2.2.2, AmR, kp, exe, Arg.val, Env.at, lk, putd, ok1, Option.getD_some, if_true, if_false, reduceCtorEq, Nat.reduceEqDiff, Nat.reduceAdd, resAll, resOf, and_true, List.nil_append, visH, List.flatMap_nil, Option.map_some]

end Go.Am

/- lex.Quote. Conditions: none. -/
namespace Go.Am

def hexDigits : List UInt8 := [48, 49, 50, 51, 52, 53, 54, 55, 56, 57, 97, 98, 99, 100, 101, 102]
def hexB (n : Nat) : UInt8 := hexDigits.getD n 0
/-- A byte, quoted. -/
def quote1 (c : UInt8) : List UInt8 :=
  if plainB c.toNat then [c] else if c = 34 ∨ c = 92 then [92, c] else if c = 10 then [92, 110] else [92, 120, hexB (c.toNat / 16), hexB (c.toNat % 16)]
def quoteL (d : List UInt8) : List UInt8 := 34 :: (d.flatMap quote1 ++ [34])

/-- What the loop holds: a builder at p with a buffer. -/
def QInv (H : AH) (p : Nat) (s : List UInt8) : Prop :=
  Names H ∧ H.floor ≤ p ∧ p < H.next ∧ s.length ≤ 1000000 ∧ ∃ q, q ≠ p ∧ H.floor ≤ q ∧ q < H.next ∧ 0 < s.length ∧
    H.get p = some ⟨[.ptr p 0, .sl q 0 1 s.length none], false, 50, true, true⟩ ∧ H.get q = some ⟨ofBytes s, false, 5, false, true⟩

theorem QInv.byte {H : AH} {p : Nat} {s : List UInt8} (h : QInv H p s) (c : UInt8) (hl : s.length + 1 ≤ 1000000) :
    ∃ H', Tryz.call 16 [.ptr p 0, .int .u8 c.toNat] H = some (.ok .nili, H') ∧ QInv H' p (s ++ [c]) := by
  obtain ⟨hN, hfp, hpn, hlen, q, hqp, hfq, hqn, h0, hp, hq⟩ := h
  refine ⟨_, Tryz.writeByte H p q s c.toNat hqp hfq hfp hpn hqn hlen hp hq, ?_⟩
  refine ⟨((hN.push _ _ _).turn _ _ _ _).put _ _, hfp, by show p < H.next + 1 + 1; omega, by simp; omega, H.next + 1, by omega, by show H.floor ≤ H.next + 1; omega, by show H.next + 1 < H.next + 1 + 1; omega, by simp, ?_, ?_⟩
  · unfold wrote
    rw [get_put, if_pos rfl, get_turn, if_neg (by show ¬ p = H.next + 1; omega), if_neg (Ne.symm hqp), get_push_old _ _ _ _ hpn, hp]
    simp
  · unfold wrote
    rw [get_put, if_neg (by omega), get_turn]
    have : H.next + 1 = (H.push 5 true [AV.int IntKind.u8 ↑c.toNat]).next := rfl
    rw [if_pos this]
    simp [ofBytes]

theorem QInv.str {H : AH} {p : Nat} {s : List UInt8} (h : QInv H p s) (t : List UInt8) (ht : t ≠ []) (hl : s.length + t.length ≤ 1000000) :
    ∃ H', Tryz.call 22 [.ptr p 0, .str t] H = some (.ok (.tup [.int .i64 t.length, .nili]), H') ∧ QInv H' p (s ++ t) := by
  obtain ⟨hN, hfp, hpn, hlen, q, hqp, hfq, hqn, h0, hp, hq⟩ := h
  refine ⟨_, Tryz.writeString H p q s t hqp hfq hfp hpn hl (by cases t with | nil => exact absurd rfl ht | cons _ _ => simp [ofBytes]) hp hq, ?_⟩
  refine ⟨(hN.turn _ _ _ _).put _ _, hfp, by show p < H.next + 1; omega, by simp; omega, H.next, by omega, by show H.floor ≤ H.next; omega, by show H.next < H.next + 1; omega, by simp; omega, ?_, ?_⟩
  · unfold wroteS
    rw [get_put, if_pos rfl, get_turn, if_neg (by omega), if_neg (Ne.symm hqp), hp]
    simp
  · unfold wroteS
    rw [get_put, if_neg (by omega), get_turn, if_pos rfl, ofBytes_append]

end Go.Am

/- lex.Quote's loop. Conditions: none. -/
namespace Go.Am

theorem quote1_len (c : UInt8) : (quote1 c).length ≤ 4 := by unfold quote1; split <;> (try split) <;> (try split) <;> simp
theorem quotes_len (d : List UInt8) : (d.flatMap quote1).length ≤ 4 * d.length := by
  induction d with
  | nil => simp
  | cons c d ih => have := quote1_len c; simp only [List.flatMap_cons, List.length_append, List.length_cons]; omega
theorem quotes_step {d : List UInt8} {i : Nat} {c : UInt8} (h : d[i]? = some c) : (d.take (i + 1)).flatMap quote1 = (d.take i).flatMap quote1 ++ quote1 c := by
  rw [List.take_add_one, h]; simp
theorem hexB_at {n : Nat} (h : n < 16) : ([48, 49, 50, 51, 52, 53, 54, 55, 56, 57, 97, 98, 99, 100, 101, 102] : List UInt8)[n]? = some (hexB n) := by
  have : ∀ n : Fin 16, ([48, 49, 50, 51, 52, 53, 54, 55, 56, 57, 97, 98, 99, 100, 101, 102] : List UInt8)[n.val]? = some (hexB n.val) := by decide
  exact this ⟨n, h⟩
theorem shr4 {n : Nat} : abin .shr (.int .u8 (n : Int)) (.int .u64 4) = some (.int .u8 ((n / 16 : Nat) : Int)) := by
  have h1 : min (4 : Int).toNat IntKind.u8.bits = 4 := rfl
  have h2 : (n : Int).fdiv (2 ^ 4) = ((n / 16 : Nat) : Int) := by
    rw [Int.fdiv_eq_ediv_of_nonneg _ (by decide)]; omega
  simp only [abin, h1, h2]
  rfl
theorem and15 {n : Nat} (h : n < 256) : abin .and (.int .u8 (n : Int)) (.int .u8 15) = some (.int .u8 ((n % 16 : Nat) : Int)) := by
  have : ∀ n : Fin 256, IntKind.u8.wrap ((BitVec.ofInt IntKind.u8.bits (n.val : Int) &&& BitVec.ofInt IntKind.u8.bits 15).toNat : Int) = ((n.val % 16 : Nat) : Int) := by decide +kernel
  have h1 := this ⟨n, h⟩
  simp only [abin, h1]
  rfl
theorem i32_byte (c : UInt8) : IntKind.i32.wrap (c.toNat : Int) = c.toNat := by
  have : ∀ n : Fin 256, IntKind.i32.wrap (n.val : Int) = (n.val : Int) := by decide +kernel
  exact this ⟨c.toNat, c.toNat_lt⟩

theorem Tryz.quoteLoop (d : List UInt8) (hd : d.length ≤ 200000) (K : AX → St → Prop) (ks : List Fr) (p : Nat) (L : ACode) (hL : L = .loop (some [0, 3, 8, 9]) Tryz.fn36_l0) : ∀ (n i : Nat) (H : AH), n + i = d.length → QInv H p (34 :: (d.take i).flatMap quote1) →
    (∀ H' v, QInv H' p (34 :: d.flatMap quote1) → Nx Tryz.call K ks [(10, .bool false), (0, .str d), (3, .ptr p 0), (8, .int .i64 d.length), (9, .int .i64 d.length), (10, v)] H') →
    W Tryz.call K (.block 0 :: ks) [(0, .str d), (3, .ptr p 0), (8, .int .i64 d.length), (9, .int .i64 i)] H L := by
  intro n
  induction n with
  | zero =>
    intro i H hi hq hk
    refine W_loopN hL ?_
    have hi' : i = d.length := by omega
    subst hi'
    simp only [Tryz.fn36_l0, Tryz.fn36_r4, AmR, kp, pushA, exe, Arg.val, Env.at, lk, putd, okM, abin, Option.getD_some, if_true, if_false, reduceCtorEq, Nat.reduceEqDiff]
    refine ⟨fun h => absurd h (by omega), fun _ => ?_⟩
    rw [List.take_length] at hq
    exact hk _ _ hq
  | succ n ih =>
    intro i H hi hq hk
    refine W_loopN hL ?_
    obtain ⟨c, hc⟩ : ∃ c, d[i]? = some c := ⟨_, List.getElem?_eq_getElem (by omega)⟩
    have h0 : (0 : Int) ≤ (i : Int) := by omega
    have hcb := c.toNat_lt
    have hw : IntKind.i64.wrap ((i : Int) + 1) = ((i + 1 : Nat) : Int) := by rw [IntWalk.i64_in _ (by omega)]; omega
    have hpl := Tryz.plain (c.toNat : Int)
    have hst := quotes_step hc
    have hlen : ((d.take i).flatMap quote1).length + 4 ≤ 900000 := by
      have := quotes_len (d.take i)
      have h2 : (d.take i).length ≤ d.length := by rw [List.length_take]; omega
      omega
    have key : ∀ H', QInv H' p (34 :: (d.take i).flatMap quote1 ++ quote1 c) → W Tryz.call K (.block 0 :: ks) [(0, .str d), (3, .ptr p 0), (8, .int .i64 d.length), (9, .int .i64 ((i + 1 : Nat) : Int))] H' L := fun H' hq' => ih (i + 1) H' (by omega) (by rw [hst]; exact hq') hk
    simp only [Tryz.fn36_l0, Tryz.fn36_r4, AmR, kp, pushA, exe, Arg.val, Env.at, lk, putd, okM, abin, Option.getD_some, if_true, if_false, reduceCtorEq, Nat.reduceEqDiff]
    refine ⟨fun h => ?_, fun h => absurd h (by omega)⟩
    simp only [Tryz.fn36_r5, AmR, kp, exe, Arg.val, Env.at, lk, putd, ok1, Option.getD_some, if_true, if_false, reduceCtorEq, Nat.reduceEqDiff]
    simp only [Tryz.fn36_r6, h0, Int.toNat_natCast, hc, AmR, kp, exe, Arg.val, Env.at, lk, putd, ok1, okM, Option.getD_some, if_true, if_false, reduceCtorEq, Nat.reduceEqDiff, Option.map_some]
    simp only [Tryz.fn36_r7, i32_byte, hpl, Cd_bool, AmR, kp, pushA, exe, Arg.val, Env.at, lk, putd, ok1, Option.getD_some, if_true, if_false, reduceCtorEq, Nat.reduceEqDiff, List.map_cons, List.map_nil]
    refine ⟨fun hp => ?_, fun hp => ?_⟩
    · obtain ⟨H1, hb, hq1⟩ := hq.byte c (by simp only [List.length_cons]; omega)
      simp only [Tryz.fn36_r8, hb, AmR, kp, exe, Arg.val, Env.at, lk, putd, ok1, Option.getD_some, if_true, if_false, reduceCtorEq, Nat.reduceEqDiff, List.map_cons, List.map_nil]
      simp only [Tryz.fn36_r17, hw, AmR, kp, exe, Arg.val, Env.at, lk, putd, ok1, okM, abin, Option.getD_some, if_true, if_false, reduceCtorEq, Nat.reduceEqDiff]
      refine key _ ?_
      have : quote1 c = [c] := by unfold quote1; rw [if_pos hp]
      rw [this]; exact hq1
    · have np : ¬ plainB c.toNat = true := by rw [hp]; decide
      have esc : c = 34 ∨ c = 92 → ∃ H1 H2, Tryz.call 16 [.ptr p 0, .int .u8 92] H = some (.ok .nili, H1) ∧ Tryz.call 16 [.ptr p 0, .int .u8 c.toNat] H1 = some (.ok .nili, H2) ∧ QInv H2 p (34 :: (d.take i).flatMap quote1 ++ quote1 c) := fun hc => by
        obtain ⟨H1, hb, hq1⟩ := hq.byte 92 (by simp only [List.length_cons]; omega)
        obtain ⟨H2, hb2, hq2⟩ := hq1.byte c (by simp only [List.length_cons, List.length_append, List.length_nil]; omega)
        refine ⟨H1, H2, hb, hb2, ?_⟩
        have : quote1 c = [92, c] := by unfold quote1; rw [if_neg np, if_pos hc]
        rw [this]
        rw [List.append_assoc] at hq2
        exact hq2
      simp only [Tryz.fn36_r9, AmR, Cd_beq, Rf_beq, kp, pushA, exe, Arg.val, Env.at, lk, putd, ok1, okM, abin, Option.getD_some, if_true, if_false, reduceCtorEq, Nat.reduceEqDiff, Bool.false_eq_true]
      refine ⟨fun h34 => ?_, fun h34 => ⟨fun h92 => ?_, fun h92 => ?_⟩⟩
      · obtain ⟨H1, H2, hb1, hb2, hq2⟩ := esc (.inl (UInt8.toNat_inj.1 (by show c.toNat = 34; omega)))
        simp only [Tryz.fn36_r10, hb1, AmR, kp, exe, Arg.val, Env.at, lk, putd, Option.getD_some, if_true, if_false, reduceCtorEq, Nat.reduceEqDiff, List.map_cons, List.map_nil]
        simp only [Tryz.fn36_r11, hb2, AmR, kp, exe, Arg.val, Env.at, lk, putd, ok1, Option.getD_some, if_true, if_false, reduceCtorEq, Nat.reduceEqDiff, List.map_cons, List.map_nil]
        simp only [Tryz.fn36_r17, hw, AmR, kp, exe, Arg.val, Env.at, lk, putd, ok1, okM, abin, Option.getD_some, if_true, if_false, reduceCtorEq, Nat.reduceEqDiff]
        exact key _ hq2
      · obtain ⟨H1, H2, hb1, hb2, hq2⟩ := esc (.inr (UInt8.toNat_inj.1 (by show c.toNat = 92; omega)))
        simp only [Tryz.fn36_r10, hb1, AmR, kp, exe, Arg.val, Env.at, lk, putd, Option.getD_some, if_true, if_false, reduceCtorEq, Nat.reduceEqDiff, List.map_cons, List.map_nil]
        simp only [Tryz.fn36_r11, hb2, AmR, kp, exe, Arg.val, Env.at, lk, putd, ok1, Option.getD_some, if_true, if_false, reduceCtorEq, Nat.reduceEqDiff, List.map_cons, List.map_nil]
        simp only [Tryz.fn36_r17, hw, AmR, kp, exe, Arg.val, Env.at, lk, putd, ok1, okM, abin, Option.getD_some, if_true, if_false, reduceCtorEq, Nat.reduceEqDiff]
        exact key _ hq2
      · have nq : ¬ (c = 34 ∨ c = 92) := by rintro (rfl | rfl) <;> simp at h34 h92
        simp only [Tryz.fn36_r12, AmR, Cd_beq, kp, pushA, exe, Arg.val, Env.at, lk, putd, ok1, okM, abin, Option.getD_some, if_true, if_false, reduceCtorEq, Nat.reduceEqDiff]
        refine ⟨fun h10 => ?_, fun h10 => ?_⟩
        · have c10 : c = 10 := UInt8.toNat_inj.1 (by show c.toNat = 10; omega)
          obtain ⟨H1, hb, hq1⟩ := hq.str [92, 110] (by simp) (by simp only [List.length_cons, List.length_nil]; omega)
          simp only [Tryz.fn36_r13, hb, AmR, kp, exe, Arg.val, Env.at, lk, putd, Option.getD_some, if_true, if_false, reduceCtorEq, Nat.reduceEqDiff, Nat.reduceAdd, List.map_cons, List.map_nil, List.length_cons, List.length_nil, Int.cast_ofNat_Int]
          simp only [Tryz.fn36_r17, hw, AmR, kp, exe, Arg.val, Env.at, lk, putd, ok1, okM, abin, Option.getD_some, if_true, if_false, reduceCtorEq, Nat.reduceEqDiff]
          refine key _ ?_
          have : quote1 c = [92, 110] := by unfold quote1; rw [if_neg np, if_neg nq, if_pos c10]
          rw [this]; exact hq1
        · have n10 : ¬ c = 10 := by rintro rfl; simp at h10
          obtain ⟨H1, hb, hq1⟩ := hq.str [92, 120] (by simp) (by simp only [List.length_cons, List.length_nil]; omega)
          obtain ⟨H2, hb2, hq2⟩ := hq1.byte (hexB (c.toNat / 16)) (by simp only [List.length_cons, List.length_append, List.length_nil]; omega)
          obtain ⟨H3, hb3, hq3⟩ := hq2.byte (hexB (c.toNat % 16)) (by simp only [List.length_cons, List.length_append, List.length_nil]; omega)
          have a1 : (0 : Int) ≤ ((c.toNat / 16 : Nat) : Int) := by omega
          have a2 : (0 : Int) ≤ ((c.toNat % 16 : Nat) : Int) := by omega
          have x1 := hexB_at (n := c.toNat / 16) (by omega)
          have x2 := hexB_at (n := c.toNat % 16) (by omega)
          have y2 := and15 hcb
          simp only [Tryz.fn36_r14, hb, AmR, kp, exe, Arg.val, Env.at, lk, putd, Option.getD_some, if_true, if_false, reduceCtorEq, Nat.reduceEqDiff, Nat.reduceAdd, List.map_cons, List.map_nil, List.length_cons, List.length_nil, Int.cast_ofNat_Int]
          simp only [Tryz.fn36_r15, shr4, a1, Int.toNat_natCast, x1, hb2, AmR, kp, exe, Arg.val, Env.at, lk, putd, ok1, okM, Option.getD_some, if_true, if_false, reduceCtorEq, Nat.reduceEqDiff, List.map_cons, List.map_nil, Option.map_some]
          simp only [Tryz.fn36_r16, y2, a2, Int.toNat_natCast, x2, hb3, AmR, kp, exe, Arg.val, Env.at, lk, putd, ok1, okM, Option.getD_some, if_true, if_false, reduceCtorEq, Nat.reduceEqDiff, List.map_cons, List.map_nil, Option.map_some]
          simp only [Tryz.fn36_r17, hw, AmR, kp, exe, Arg.val, Env.at, lk, putd, ok1, okM, abin, Option.getD_some, if_true, if_false, reduceCtorEq, Nat.reduceEqDiff]
          refine key _ ?_
          have : quote1 c = [92, 120, hexB (c.toNat / 16), hexB (c.toNat % 16)] := by unfold quote1; rw [if_neg np, if_neg nq, if_neg n10]
          rw [this]
          simp only [List.append_assoc, List.cons_append, List.nil_append] at hq3 ⊢
          exact hq3

theorem QInv.new {H : AH} {p : Nat} (hN : Names H) (hfp : H.floor ≤ p) (hpn : p < H.next) (hp : H.get p = some ⟨[.nilp, .nils], false, 50, true, true⟩) (c : UInt8) :
    ∃ H', Tryz.call 16 [.ptr p 0, .int .u8 c.toNat] H = some (.ok .nili, H') ∧ QInv H' p [c] := by
  refine ⟨_, Tryz.writeByte1 H p c.toNat hfp hpn hp, ?_⟩
  unfold wrote1
  refine ⟨(((hN.put _ _).push _ _ _).push _ _ _).put _ _, hfp, by show p < H.next + 1 + 1; omega, by simp, H.next + 1, by omega, by show H.floor ≤ H.next + 1; omega, by show H.next + 1 < H.next + 1 + 1; omega, by simp, ?_, ?_⟩
  · rw [get_put, if_pos rfl, get_push_old _ _ _ _ (by show p < H.next + 1; omega), get_push_old _ _ _ _ (by show p < H.next; omega), get_put, if_pos rfl, hp]
    simp
  · rw [get_put, if_neg (by omega)]
    exact get_push_new ((H.put p ⟨[.ptr p 0, .nils], false, 50, true, true⟩).push 5 true [.int .u8 c.toNat]) 5 false _

theorem QInv.string {H : AH} {p : Nat} {s : List UInt8} (h : QInv H p s) : ∃ H', Tryz.call 17 [.ptr p 0] H = some (.ok (.str s), H') := by
  obtain ⟨hN, hfp, hpn, hlen, q, hqp, hfq, hqn, h0, hp, hq⟩ := h
  exact ⟨_, Tryz.builderString H p q s hN hfq h0 hlen hp hq⟩

theorem Tryz.quote (d : List UInt8) (hd : d.length ≤ 200000) (H : AH) : Tryz.call 36 [.str d] H = some (.ok (.str (quoteL d)), H) := by
  refine ecall_flat 8 [] _ _ (out := [.str (quoteL d)]) rfl rfl rfl (views_flat rfl (views_nil H 8)) rfl ?_
  show W Tryz.call _ _ _ _ _
  obtain ⟨H1, hb1, hq1⟩ := QInv.new (H := ⟨[(8, ⟨[.nilp, .nils], false, 50, true, true⟩)], 9, 8⟩) (p := 8) (by intro x hx; simp at hx; subst hx; decide) (by decide) (by decide) rfl 34
  have hb1' : Tryz.call 16 [.ptr 8 0, .int .u8 34] ⟨[(8, ⟨[.nilp, .nils], false, 50, true, true⟩)], 9, 8⟩ = _ := hb1
  simp only [Tryz.fn36, AmR, number, List.append_nil]
  simp only [Tryz.fn36_r0, AmR, kp, exe, Arg.val, Env.at, lk, putd, ok1, Option.getD_some, if_true, if_false, reduceCtorEq]
  simp only [Tryz.fn36_r1, AmR, kp, exe, Env.at, lk, putd, ok1, AH.push, Option.getD_some, if_true, if_false, reduceCtorEq, Nat.reduceAdd]
  simp only [Tryz.fn36_r2, hb1', AmR, kp, exe, Arg.val, Env.at, lk, putd, Option.getD_some, if_true, if_false, reduceCtorEq, Nat.reduceEqDiff, List.map_cons, List.map_nil]
  simp only [Tryz.fn36_r3, AmR, kp, exe, Arg.val, Env.at, lk, putd, ok1, Option.getD_some, if_true, if_false, reduceCtorEq, Nat.reduceEqDiff]
  refine Tryz.quoteLoop d hd _ _ 8 _ rfl d.length 0 _ (by omega) hq1 ?_
  intro H2 v hq2
  obtain ⟨H3, hb3, hq3⟩ := hq2.byte 34 (by have := quotes_len d; simp only [List.length_cons]; omega)
  obtain ⟨H4, hb4⟩ := hq3.string
  have hb3' : Tryz.call 16 [.ptr 8 0, .int .u8 34] H2 = _ := hb3
  simp only [Tryz.fn36_r18, hb3', AmR, kp, exe, Arg.val, Env.at, lk, putd, Option.getD_some, if_true, if_false, reduceCtorEq, Nat.reduceEqDiff, List.map_cons, List.map_nil]
  simp only [Tryz.fn36_r19, hb4, AmR, kp, exe, Arg.val, Env.at, lk, putd, ok1, Option.getD_some, if_true, if_false, Nat.reduceEqDiff, resAll, resOf, Option.some.injEq, List.cons.injEq, AV.str.injEq, and_true, List.map_cons, List.map_nil, List.cons_append]
  rfl

end Go.Am

/- Quote of the specification. Conditions: none. -/
namespace Go.Am

theorem u8_div16 (c : UInt8) : IntKind.u8.wrap ((c.toNat : Int).tdiv 16) = ((c.toNat / 16 : Nat) : Int) := by
  have : ∀ n : Fin 256, IntKind.u8.wrap ((n.val : Int).tdiv 16) = ((n.val / 16 : Nat) : Int) := by decide +kernel
  exact this ⟨c.toNat, c.toNat_lt⟩
theorem u8_mod16 (c : UInt8) : (c.toNat : Int).tmod 16 = ((c.toNat % 16 : Nat) : Int) := (Int.ofNat_tmod c.toNat 16).symm

end Go.Am

/- Lines of events. Conditions: none. -/
namespace Go.Am

def kindName (k : Int) : List UInt8 := kindNames.getD (k - 1).toNat []
def lineWords (x : Ev) : List (List UInt8) := [kindName x.k, Lib.itoa x.f, Lib.itoa x.t, Lib.itoa x.v, Lib.itoa x.a, Lib.itoa x.ft, quoteL x.d]
def lineL (x : Ev) : List UInt8 := Lib.join (lineWords x) [32]

theorem kindBlk_at {k : Int} (h1 : 1 ≤ k) (h2 : k ≤ 8) : kindBlk.cells[0 + (k - 1).toNat * 1]? = some (.str (kindName k)) := by
  have : k = 1 ∨ k = 2 ∨ k = 3 ∨ k = 4 ∨ k = 5 ∨ k = 6 ∨ k = 7 ∨ k = 8 := by omega
  rcases this with rfl | rfl | rfl | rfl | rfl | rfl | rfl | rfl <;> rfl
theorem kindName_len (k : Int) : (kindName k).length ≤ 10 := by
  have : ∀ n : Fin 8, (kindNames.getD n.val []).length ≤ 10 := by decide
  unfold kindName
  by_cases h : (k - 1).toNat < 8
  · exact this ⟨_, h⟩
  · rw [List.getD_eq_getElem?_getD, List.getElem?_eq_none (by show 8 ≤ _; omega)]; simp

theorem Tryz.itoa (n : Int) (H : AH) (h0 : -9223372036854775808 ≤ n) (h1 : n ≤ 9223372036854775807) : Tryz.call 23 [.int .i64 n] H = some (.ok (.str (Lib.itoa n)), H) := by
  refine ecall_ext 8 [] _ _ (g := gItoa) rfl _ H ?_
  show (if -9223372036854775808 ≤ n ∧ n ≤ 9223372036854775807 then ok1 H (.str (itoaF n)) else none) = _
  rw [if_pos ⟨h0, h1⟩, itoaF_eq h0 h1]
  rfl

theorem strsOf_map (xs : List (List UInt8)) : strsOf (xs.map .str) = some xs := by
  induction xs with
  | nil => rfl
  | cons x xs ih => simp [strsOf, ih]

theorem Tryz.join (H : AH) (i n : Nat) (c : Option Nat) (xs : List (List UInt8)) (sep : List UInt8) (hc : H.cellsAt i 0 n = some (xs.map .str)) (hn : n ≤ 140737488355328) (hl : (Lib.join xs sep).length ≤ 140737488355328) :
    Tryz.call 35 [.sl i 0 1 n c, .str sep] H = some (.ok (.str (Lib.join xs sep)), H) := by
  refine ecall_ext 8 [] _ _ (g := gJoin) rfl _ H ?_
  simp only [gJoin, if_true, hc, strsOf_map, hn, hl, and_self]
  rfl

theorem Ev.ok_iff (x : Ev) : x.ok = true ↔ (1 ≤ x.k ∧ x.k ≤ 8 ∧ 0 ≤ x.f ∧ x.f ≤ x.t ∧ x.t ≤ 1099511627776 ∧ -9007199254740992 ≤ x.v ∧ x.v ≤ 9007199254740992 ∧ -9007199254740992 ≤ x.a ∧ x.a ≤ 9007199254740992 ∧ (x.d.length : Int) ≤ 4096 ∧ 0 ≤ x.ft ∧ x.ft ≤ 12) := by
  unfold Ev.ok; rw [decide_eq_true_iff]

theorem quoteL_len (d : List UInt8) : (quoteL d).length ≤ 4 * d.length + 2 := by
  have := quotes_len d
  unfold quoteL
  simp only [List.length_cons, List.length_append, List.length_nil]
  omega

theorem lineL_eq (x : Ev) : lineL x = kindName x.k ++ [32] ++ Lib.itoa x.f ++ [32] ++ Lib.itoa x.t ++ [32] ++ Lib.itoa x.v ++ [32] ++ Lib.itoa x.a ++ [32] ++ Lib.itoa x.ft ++ [32] ++ quoteL x.d := by
  simp [lineL, lineWords, Lib.join, List.intercalate, List.intersperse]

theorem lineL_len (x : Ev) (h : x.ok = true) : (lineL x).length ≤ 20000 := by
  rw [Ev.ok_iff] at h
  have h1 := kindName_len x.k
  have h2 := Lib.itoa_length_le x.f (by omega) (by omega)
  have h3 := Lib.itoa_length_le x.t (by omega) (by omega)
  have h4 := Lib.itoa_length_le x.v (by omega) (by omega)
  have h5 := Lib.itoa_length_le x.a (by omega) (by omega)
  have h6 := Lib.itoa_length_le x.ft (by omega) (by omega)
  have h7 := quoteL_len x.d
  rw [lineL_eq]
  simp only [List.length_append, List.length_cons, List.length_nil]
  omega

theorem Tryz.lineBad (x : Ev) (H : AH) (h : x.ok = false) : Tryz.call 21 [x.av] H = some (.ok (.tup [.str [], .int .i64 1]), H) := by
  refine ecall_flat 8 [] _ _ (out := [.str [], .int .i64 1]) rfl rfl rfl (views_agg x.flat (views_nil H 8)) rfl ?_
  show W Tryz.call _ _ _ _ _
  have hv := Tryz.valid x
  rw [h] at hv
  obtain ⟨k, f, t, v, a, d, ft⟩ := x
  simp only [Ev.av, Ev.cells] at hv ⊢
  simp only [Tryz.fn21, AmR, number, List.append_nil]
  simp only [Tryz.fn21_r0, AmR, kp, exe, Arg.val, Env.at, lk, putd, AV.cells?, ok1, AH.push, Option.getD_some, if_true, if_false, reduceCtorEq, Nat.reduceEqDiff, Nat.reduceAdd]
  simp only [Tryz.fn21_r1, hv, AmR, kp, pushA, exe, Arg.val, Env.at, lk, putd, okM, AH.get, Option.getD_some, if_true, if_false, Bool.not_false, Nat.reduceEqDiff, Nat.reduceAdd, Nat.reduceLeDiff, aun, List.map_cons, List.map_nil, AH.cellsAt, List.length_cons, List.length_nil, List.drop_zero, List.take_succ_cons, List.take_zero, Option.map_some]
  simp only [Tryz.fn21_r2, AmR, kp, exe, Arg.val, Env.at, lk, putd, ok1, Option.getD_some, if_true, if_false, Nat.reduceEqDiff, resAll, resOf]

theorem Tryz.line (x : Ev) (H : AH) (h : x.ok = true) : Tryz.call 21 [x.av] H = some (.ok (.tup [.str (lineL x), .int .i64 0]), H) := by
  refine ecall_flat 8 [] _ _ (out := [.str (lineL x), .int .i64 0]) rfl rfl rfl (views_agg x.flat (views_nil H 8)) rfl ?_
  show W Tryz.call _ _ _ _ _
  have hv := Tryz.valid x
  rw [h] at hv
  have hlen := lineL_len x h
  rw [Ev.ok_iff] at h
  generalize hr : lineL x = r at hlen ⊢
  obtain ⟨k, f, t, v, a, d, ft⟩ := x
  simp only [Ev.av, Ev.cells] at hv ⊢
  dsimp only at h
  have hwk : IntKind.i64.wrap (k - 1) = k - 1 := IntWalk.i64_in _ (by omega)
  have hk1 : (0 : Int) ≤ k - 1 := by omega
  have hk2 : k - 1 < 8 := by omega
  have hkb := kindBlk_at h.1 h.2.1
  have hkinds := Tryz.kinds
  have w1 : IntKind.i64.wrap 1 = 1 := rfl
  have w2 : IntKind.i64.wrap 2 = 2 := rfl
  have w3 : IntKind.i64.wrap 3 = 3 := rfl
  have w4 : IntKind.i64.wrap 4 = 4 := rfl
  have w5 : IntKind.i64.wrap 5 = 5 := rfl
  have i1 := fun H => Tryz.itoa f H (by omega) (by omega)
  have i2 := fun H => Tryz.itoa t H (by omega) (by omega)
  have i3 := fun H => Tryz.itoa v H (by omega) (by omega)
  have i4 := fun H => Tryz.itoa a H (by omega) (by omega)
  have i5 := fun H => Tryz.itoa ft H (by omega) (by omega)
  simp only [Tryz.fn21, AmR, number, List.append_nil]
  simp only [Tryz.fn21_r0, AmR, kp, exe, Arg.val, Env.at, lk, putd, AV.cells?, ok1, AH.push, Option.getD_some, if_true, if_false, reduceCtorEq, Nat.reduceEqDiff, Nat.reduceAdd]
  simp only [Tryz.fn21_r1, hv, AmR, kp, pushA, exe, Arg.val, Env.at, lk, putd, okM, AH.get, Option.getD_some, if_true, if_false, Bool.not_true, Nat.reduceEqDiff, Nat.reduceAdd, Nat.reduceLeDiff, aun, List.map_cons, List.map_nil, AH.cellsAt, List.length_cons, List.length_nil, List.drop_zero, List.take_succ_cons, List.take_zero, Option.map_some]
  refine W_drawn' (by kernel_rfl) ?_
  simp only [Tryz.fn21_r3, hkinds, hwk, hk1, hk2, hkb, Int.cast_ofNat_Int, AmR, kp, exe, Arg.val, Env.at, lk, putd, AV.cells?, ok1, okM, AH.push, AH.get, abin, Option.getD_some, if_true, if_false, List.getElem?_cons_zero, Nat.reduceEqDiff, Nat.reduceAdd, Bool.false_eq_true, and_true, true_and, List.nil_append, List.append_nil, visH, List.filter_cons, List.filter_nil, List.flatMap_nil, List.flatMap_cons, List.contains_cons, List.contains_nil, Nat.reduceBEq, Bool.or_false, Nat.reduceLeDiff, List.map_cons, List.map_nil, putAt, List.length_cons, List.length_nil, List.cons_append, afill, rep, AH.take1, List.reduceReplicate, List.flatten_cons, List.flatten_nil, List.set_cons_zero, Int.cast_ofNat_Int]
  simp only [Tryz.fn21_r4, AmR, kp, exe, Arg.val, Env.at, lk, putd, ok1, okM, AH.get, Option.getD_some, if_true, if_false, List.getElem?_cons_zero, List.getElem?_cons_succ, Nat.reduceEqDiff, Nat.reduceAdd]
  simp only [Tryz.fn21_r5, Int.cast_ofNat_Int, AmR, kp, exe, Arg.val, Env.at, lk, putd, AV.cells?, ok1, okM, AH.push, Option.getD_some, if_true, if_false, Nat.reduceEqDiff, Nat.reduceAdd, and_true, List.nil_append, List.append_nil, Nat.reduceLeDiff, List.map_cons, List.map_nil, putAt, List.length_cons, List.length_nil, Option.map_some, List.cons_append, afill, rep, List.reduceReplicate, List.flatten_cons, List.flatten_nil, List.set_cons_zero, List.set_cons_succ, Int.cast_ofNat_Int, ↓exe_lenl, lenS_sl]
  generalize hL' : ACode.loop (some [1, 4, 27, 28, 29]) Tryz.fn21_l0 = L
  have hL := hL'.symm
  refine W_loopN hL ?_
  simp only [Tryz.fn21_l0, Tryz.fn21_r6, AmR, kp, pushA, exe, Arg.val, Env.at, lk, putd, okM, abin, Option.getD_some, if_true, if_false, Nat.reduceEqDiff, decide_true, Int.reduceLT]
  simp only [Tryz.fn21_r7, Int.cast_ofNat_Int, AmR, kp, exe, Arg.val, Env.at, lk, putd, ok1, okM, AH.get, Option.getD_some, if_true, if_false, List.getElem?_cons_zero, Nat.reduceEqDiff, Nat.reduceAdd, Nat.reduceMul, and_true, Int.reduceLT, Int.reduceLE, Int.reduceToNat, Int.cast_ofNat_Int]
  simp only [Tryz.fn21_r8, i1, takeFrom, aapp, Nat.div_one, Nat.reduceMod, and_self, not_false_eq_true, del, AH.turn, AmR, kp, exe, Arg.val, Env.at, lk, putd, AV.cells?, ok1, AH.push, AH.get, Option.getD_some, if_true, if_false, reduceCtorEq, Nat.reduceEqDiff, Nat.reduceAdd, Nat.reduceMul, Bool.true_eq_false, List.nil_append, List.append_nil, Nat.reduceBEq, Nat.reduceLeDiff, List.map_cons, List.map_nil, AH.cellsAt, putAt, solid, List.all_cons, List.all_nil, Bool.and_self, List.length_cons, List.length_nil, List.drop_zero, List.take_succ_cons, List.take_zero, List.cons_append, afill, rep, List.reduceReplicate, List.flatten_cons, List.flatten_nil, List.set_cons_zero]
  simp only [Tryz.fn21_r9, w1, AmR, kp, exe, Arg.val, Env.at, lk, putd, ok1, okM, abin, Option.getD_some, if_true, if_false, Nat.reduceEqDiff, Int.reduceAdd]
  refine W_loopN hL ?_
  simp only [Tryz.fn21_l0, Tryz.fn21_r6, AmR, kp, pushA, exe, Arg.val, Env.at, lk, putd, okM, abin, Option.getD_some, if_true, if_false, Nat.reduceEqDiff, decide_true, Int.reduceLT]
  simp only [Tryz.fn21_r7, Int.cast_ofNat_Int, AmR, kp, exe, Arg.val, Env.at, lk, putd, ok1, okM, AH.get, Option.getD_some, if_true, if_false, List.getElem?_cons_zero, List.getElem?_cons_succ, Nat.reduceEqDiff, Nat.reduceAdd, Nat.reduceMul, and_true, Int.reduceLT, Int.reduceLE, Int.reduceToNat, Int.cast_ofNat_Int]
  simp only [Tryz.fn21_r8, i2, takeFrom, aapp, Nat.div_one, Nat.reduceMod, and_self, not_false_eq_true, del, AH.turn, AmR, kp, exe, Arg.val, Env.at, lk, putd, AV.cells?, ok1, AH.push, AH.get, Option.getD_some, if_true, if_false, reduceCtorEq, Nat.reduceEqDiff, Nat.reduceAdd, Nat.reduceMul, Bool.true_eq_false, List.nil_append, List.append_nil, Nat.reduceBEq, Nat.reduceLeDiff, List.map_cons, List.map_nil, AH.cellsAt, putAt, solid, List.all_cons, List.all_nil, Bool.and_self, List.length_cons, List.length_nil, List.drop_zero, List.take_succ_cons, List.take_zero, List.cons_append, afill, rep, List.reduceReplicate, List.flatten_cons, List.flatten_nil, List.set_cons_zero]
  simp only [Tryz.fn21_r9, w2, AmR, kp, exe, Arg.val, Env.at, lk, putd, ok1, okM, abin, Option.getD_some, if_true, if_false, Nat.reduceEqDiff, Int.reduceAdd]
  refine W_loopN hL ?_
  simp only [Tryz.fn21_l0, Tryz.fn21_r6, AmR, kp, pushA, exe, Arg.val, Env.at, lk, putd, okM, abin, Option.getD_some, if_true, if_false, Nat.reduceEqDiff, decide_true, Int.reduceLT]
  simp only [Tryz.fn21_r7, Int.cast_ofNat_Int, AmR, kp, exe, Arg.val, Env.at, lk, putd, ok1, okM, AH.get, Option.getD_some, if_true, if_false, List.getElem?_cons_zero, List.getElem?_cons_succ, Nat.reduceEqDiff, Nat.reduceAdd, Nat.reduceMul, and_true, Int.reduceLT, Int.reduceLE, Int.reduceToNat, Int.cast_ofNat_Int]
  simp only [Tryz.fn21_r8, i3, takeFrom, aapp, Nat.div_one, Nat.reduceMod, and_self, not_false_eq_true, del, AH.turn, AmR, kp, exe, Arg.val, Env.at, lk, putd, AV.cells?, ok1, AH.push, AH.get, Option.getD_some, if_true, if_false, reduceCtorEq, Nat.reduceEqDiff, Nat.reduceAdd, Nat.reduceMul, Bool.true_eq_false, List.nil_append, List.append_nil, Nat.reduceBEq, Nat.reduceLeDiff, List.map_cons, List.map_nil, AH.cellsAt, putAt, solid, List.all_cons, List.all_nil, Bool.and_self, List.length_cons, List.length_nil, List.drop_zero, List.take_succ_cons, List.take_zero, List.cons_append, afill, rep, List.reduceReplicate, List.flatten_cons, List.flatten_nil, List.set_cons_zero]
  simp only [Tryz.fn21_r9, w3, AmR, kp, exe, Arg.val, Env.at, lk, putd, ok1, okM, abin, Option.getD_some, if_true, if_false, Nat.reduceEqDiff, Int.reduceAdd]
  refine W_loopN hL ?_
  simp only [Tryz.fn21_l0, Tryz.fn21_r6, AmR, kp, pushA, exe, Arg.val, Env.at, lk, putd, okM, abin, Option.getD_some, if_true, if_false, Nat.reduceEqDiff, decide_true, Int.reduceLT]
  simp only [Tryz.fn21_r7, Int.cast_ofNat_Int, AmR, kp, exe, Arg.val, Env.at, lk, putd, ok1, okM, AH.get, Option.getD_some, if_true, if_false, List.getElem?_cons_zero, List.getElem?_cons_succ, Nat.reduceEqDiff, Nat.reduceAdd, Nat.reduceMul, and_true, Int.reduceLT, Int.reduceLE, Int.reduceToNat, Int.cast_ofNat_Int]
  simp only [Tryz.fn21_r8, i4, takeFrom, aapp, Nat.div_one, Nat.reduceMod, and_self, not_false_eq_true, del, AH.turn, AmR, kp, exe, Arg.val, Env.at, lk, putd, AV.cells?, ok1, AH.push, AH.get, Option.getD_some, if_true, if_false, reduceCtorEq, Nat.reduceEqDiff, Nat.reduceAdd, Nat.reduceMul, Bool.true_eq_false, List.nil_append, List.append_nil, Nat.reduceBEq, Nat.reduceLeDiff, List.map_cons, List.map_nil, AH.cellsAt, putAt, solid, List.all_cons, List.all_nil, Bool.and_self, List.length_cons, List.length_nil, List.drop_zero, List.take_succ_cons, List.take_zero, List.cons_append, afill, rep, List.reduceReplicate, List.flatten_cons, List.flatten_nil, List.set_cons_zero]
  simp only [Tryz.fn21_r9, w4, AmR, kp, exe, Arg.val, Env.at, lk, putd, ok1, okM, abin, Option.getD_some, if_true, if_false, Nat.reduceEqDiff, Int.reduceAdd]
  refine W_loopN hL ?_
  simp only [Tryz.fn21_l0, Tryz.fn21_r6, AmR, kp, pushA, exe, Arg.val, Env.at, lk, putd, okM, abin, Option.getD_some, if_true, if_false, Nat.reduceEqDiff, decide_true, Int.reduceLT]
  simp only [Tryz.fn21_r7, Int.cast_ofNat_Int, AmR, kp, exe, Arg.val, Env.at, lk, putd, ok1, okM, AH.get, Option.getD_some, if_true, if_false, List.getElem?_cons_zero, List.getElem?_cons_succ, Nat.reduceEqDiff, Nat.reduceAdd, Nat.reduceMul, and_true, Int.reduceLT, Int.reduceLE, Int.reduceToNat, Int.cast_ofNat_Int]
  simp only [Tryz.fn21_r8, i5, takeFrom, aapp, Nat.div_one, Nat.reduceMod, and_self, not_false_eq_true, del, AH.turn, AmR, kp, exe, Arg.val, Env.at, lk, putd, AV.cells?, ok1, AH.push, AH.get, Option.getD_some, if_true, if_false, reduceCtorEq, Nat.reduceEqDiff, Nat.reduceAdd, Nat.reduceMul, Bool.true_eq_false, List.nil_append, List.append_nil, Nat.reduceBEq, Nat.reduceLeDiff, List.map_cons, List.map_nil, AH.cellsAt, putAt, solid, List.all_cons, List.all_nil, Bool.and_self, List.length_cons, List.length_nil, List.drop_zero, List.take_succ_cons, List.take_zero, List.cons_append, afill, rep, List.reduceReplicate, List.flatten_cons, List.flatten_nil, List.set_cons_zero]
  simp only [Tryz.fn21_r9, w5, AmR, kp, exe, Arg.val, Env.at, lk, putd, ok1, okM, abin, Option.getD_some, if_true, if_false, Nat.reduceEqDiff, Int.reduceAdd]
  refine W_loopN hL ?_
  simp only [Tryz.fn21_l0, Tryz.fn21_r6, AmR, kp, pushA, exe, Arg.val, Env.at, lk, putd, okM, abin, Option.getD_some, if_true, if_false, Nat.reduceEqDiff, decide_false, Int.reduceLT]
  have hq := fun H => Tryz.quote d (by omega) H
  simp only [Tryz.fn21_r10, hq, takeFrom, aapp, Nat.div_one, Nat.reduceMod, and_self, not_false_eq_true, del, AH.turn, AmR, exe, Arg.val, Env.at, lk, putd, AV.cells?, ok1, okM, AH.push, AH.get, Option.getD_some, if_true, if_false, List.getElem?_cons_zero, List.getElem?_cons_succ, reduceCtorEq, Nat.reduceEqDiff, Nat.reduceAdd, Nat.reduceMul, Bool.true_eq_false, List.nil_append, List.append_nil, Nat.reduceBEq, Nat.reduceLeDiff, List.map_cons, List.map_nil, AH.cellsAt, putAt, solid, List.all_cons, List.all_nil, Bool.and_self, List.length_cons, List.length_nil, List.drop_zero, List.take_succ_cons, List.take_zero, List.cons_append, afill, rep, List.reduceReplicate, List.flatten_cons, List.flatten_nil, List.set_cons_zero]
  rw [Tryz.join (xs := lineWords ⟨k, f, t, v, a, d, ft⟩)]
  · simp only [AmR, kp, exe, Arg.val, Env.at, lk, putd, ok1, Option.getD_some, if_true, if_false, Nat.reduceEqDiff, resAll, resOf, Option.some.injEq, List.cons.injEq, AV.str.injEq, and_true]
    exact hr
  · rfl
  · omega
  · show (lineL _).length ≤ _
    rw [hr]; omega

end Go.Am
