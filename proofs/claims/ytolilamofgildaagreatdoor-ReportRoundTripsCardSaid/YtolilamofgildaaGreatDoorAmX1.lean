/-
Texts joined, one after the other. Conditions: those that each theorem names.
-/
import Derived.Test.YtolilamofgildaaGreatDoorAmTab
import Derived.Test.YtolilamofgildaaGreatDoorAmRun
import Derived.Test.YtolilamofgildaaGreatDoorMc
import Derived.IntWalk
import Derived.Lib.IndexMore
import Derived.Lib.TrimByte
set_option linter.unusedSimpArgs false
set_option linter.unusedVariables false

/- A call of the program. Conditions: none. -/
namespace Go.Am

/-- A call of the program. -/
noncomputable def Tryz.call : Call := ecall 8 [] (lk Tryz.ext) (lk Tryz.tab)

end Go.Am

/- strings.Builder: what is written with WriteString. Conditions: the builder holds what it holds. -/
namespace Go.Am

theorem Tryz.noEscape (v : AV) (H : AH) : ecall 8 [] (lk Tryz.ext) (lk Tryz.tab) 45 [v] H = some (.ok v, H) := ecall_ext 8 [] _ _ (g := gSame) rfl [v] H rfl

theorem Tryz.copyCheck (H : AH) (p : Nat) (buf : AV) (hp : H.get p = some ⟨[.ptr p 0, buf], false, 50, true, true⟩) : Tryz.call 29 [.ptr p 0] H = some (.ok (.tup []), H) := by
  refine ecall_W 8 [] _ _ (out := []) rfl rfl rfl ?_
  simp only [Tryz.fn29, AmR, number]
  simp only [Tryz.fn29_r0, hp, AmR, kp, pushA, exe, Arg.val, Env.at, lk, putd, ok1, okM, Option.getD_some, if_true, if_false, List.getElem?_cons_zero, reduceCtorEq, Nat.reduceEqDiff, Nat.reduceAdd, Option.map_some, aeqv, aeq, bne_self_eq_false]
  simp only [Tryz.fn29_r2, hp, AmR, kp, pushA, exe, Arg.val, Env.at, lk, putd, ok1, okM, Option.getD_some, if_true, if_false, List.getElem?_cons_zero, reduceCtorEq, Nat.reduceEqDiff, Nat.reduceAdd, resAll, and_true, Nat.reduceBEq, Option.map_some, aeqv, aeq, bne_self_eq_false]

theorem Tryz.copyCheckNew (H : AH) (p : Nat) (buf : AV) (hfl : H.floor ≤ p) (hp : H.get p = some ⟨[.nilp, buf], false, 50, true, true⟩) : Tryz.call 29 [.ptr p 0] H = some (.ok (.tup []), H.put p ⟨[.ptr p 0, buf], false, 50, true, true⟩) := by
  refine ecall_W 8 [] _ _ (out := []) rfl rfl rfl ?_
  have h1 : (p < H.floor) = False := by simp; omega
  simp only [Tryz.fn29, AmR, number]
  simp only [Tryz.fn29_r0, hp, AmR, kp, pushA, exe, Arg.val, Env.at, lk, putd, ok1, okM, Option.getD_some, if_true, if_false, List.getElem?_cons_zero, Bool.not_false, reduceCtorEq, Nat.reduceEqDiff, Nat.reduceAdd, Option.map_some, aeqv, aeq, Bool.true_bne]
  simp only [Tryz.fn29_r1, hp, h1, Tryz.noEscape, AH.store, AmR, kp, exe, Arg.val, Env.at, lk, putd, AV.cells?, ok1, Option.getD_some, if_true, if_false, reduceCtorEq, Nat.reduceEqDiff, Nat.reduceAdd, Nat.reduceLT, Bool.false_eq_true, resAll, and_true, Nat.reduceLeDiff, List.map_cons, List.map_nil, putAt, solid, List.all_cons, List.all_nil, Bool.and_self, List.length_cons, List.length_nil, Option.map_some, List.set_cons_zero]

/-- A builder at p that holds s; it and its buffer lie from m on. -/
def SB (m : Nat) (H : AH) (p : Nat) (s : List UInt8) : Prop :=
  Names H ∧ H.floor ≤ p ∧ m ≤ p ∧ p < H.next ∧
  ((s = [] ∧ H.get p = some ⟨[.nilp, .nils], false, 50, true, true⟩) ∨
   (∃ q, q ≠ p ∧ H.floor ≤ q ∧ m ≤ q ∧ q < H.next ∧ 0 < s.length ∧ H.get p = some ⟨[.ptr p 0, .sl q 0 1 s.length none], false, 50, true, true⟩ ∧ H.get q = some ⟨ofBytes s, false, 5, false, true⟩))

theorem SB.write {m : Nat} {H : AH} {p : Nat} {s : List UInt8} (h : SB m H p s) (hmn : m ≤ H.next) (t : List UInt8) (h0 : t ≠ []) (hl : s.length + t.length ≤ 70368744177664) :
    ∃ H', Tryz.call 22 [.ptr p 0, .str t] H = some (.ok (.tup [.int .i64 t.length, .nili]), H') ∧ SB m H' p (s ++ t) ∧ H'.floor = H.floor ∧ H.next ≤ H'.next ∧ ∀ i, i < m → H'.get i = H.get i := by
  obtain ⟨hN, hfp, hmp, hpn, h⟩ := h
  have ht : ofBytes t ≠ [] := by cases t with | nil => exact absurd rfl h0 | cons _ _ => simp [ofBytes]
  rcases h with ⟨rfl, hp⟩ | ⟨q, hqp, hfq, hmq, hqn, hs0, hp, hq⟩
  · have hc := Tryz.copyCheckNew H p _ hfp hp
    unfold Tryz.call at hc
    generalize hG : H.put p ⟨[.ptr p 0, .nils], false, 50, true, true⟩ = G at hc
    have hGn : G.next = H.next := by rw [← hG]; rfl
    have hGf : G.floor = H.floor := by rw [← hG]; rfl
    have hGN : Names G := by rw [← hG]; exact hN.put _ _
    have g0 : G.get p = some ⟨[.ptr p 0, .nils], false, 50, true, true⟩ := by rw [← hG, get_put, if_pos rfl, hp]; rfl
    have g1 : (G.push 5 false (ofBytes t)).get p = _ := (get_push_old G 5 false (ofBytes t) (by omega)).trans g0
    have k2 : (p < (G.push 5 false (ofBytes t)).floor) = False := by
      have : (G.push 5 false (ofBytes t)).floor = G.floor := rfl
      rw [this]; simp; omega
    have b1 : t.length * 2 ≤ 140737488355328 := by simp only [List.length_nil] at hl; omega
    refine ⟨(G.push 5 false (ofBytes t)).put p ⟨[.ptr p 0, .sl G.next 0 1 t.length none], false, 50, true, true⟩, ?_, ⟨(hGN.push _ _ _).put _ _, by show G.floor ≤ p; omega, hmp, by show p < G.next + 1; omega, .inr ⟨G.next, by omega, by show G.floor ≤ G.next; omega, by omega, by show G.next < G.next + 1; omega, ?_, ?_, ?_⟩⟩, hGf, by show H.next ≤ G.next + 1; omega, fun i hi => ?_⟩
    · refine ecall_W 8 [] _ _ (out := [.int .i64 t.length, .nili]) rfl rfl rfl ?_
      simp only [Tryz.fn22, AmR, number, Nat.reduceAdd]
      simp only [Tryz.fn22_r0, AmR, kp, exe, Arg.val, Env.at, lk, putd, ok1, Option.getD_some, if_true, if_false, reduceCtorEq, Nat.reduceEqDiff]
      simp only [Tryz.fn22_r1, hc, AmR, kp, exe, Arg.val, Env.at, lk, putd, ok1, Option.getD_some, if_true, if_false, reduceCtorEq, Nat.reduceEqDiff, List.map_cons, List.map_nil]
      simp only [Tryz.fn22_r2, g0, takeFrom, aapp, AH.store, ofBytes_solid, ofBytes_length, Nat.div_one, Nat.mod_one, b1, ht, not_false_eq_true, and_self, g1, k2, AmR, kp, exe, Arg.val, Env.at, lk, putd, AV.cells?, ok1, okM, Option.getD_some, if_true, if_false, List.getElem?_cons_zero, List.getElem?_cons_succ, reduceCtorEq, Nat.reduceEqDiff, Nat.reduceAdd, Bool.false_eq_true, Bool.true_eq_false, Nat.reduceLeDiff, putAt, solid, List.all_cons, List.all_nil, Bool.and_self, List.length_cons, List.length_nil, Option.map_some, List.set_cons_zero, List.set_cons_succ]
      simp only [Tryz.fn22_r3, AmR, kp, exe, Arg.val, Env.at, lk, putd, ok1, Option.getD_some, if_true, if_false, Nat.reduceEqDiff, resAll, resOf, and_true]
    · rw [List.nil_append]; exact List.length_pos_iff.2 h0
    · rw [get_put, if_pos rfl, g1]; rfl
    · rw [get_put, if_neg (by omega)]; exact get_push_new _ _ _ _
    · rw [get_put, if_neg (by omega), get_push_old _ _ _ _ (by omega), ← hG, get_put, if_neg (by omega)]
  · have hc := Tryz.copyCheck H p _ hp
    unfold Tryz.call at hc
    have ha := aapp_own (H := H) (new := ofBytes t) hq hfq ht (by rw [ofBytes_length]; omega)
    have k1 : (H.turn q 5 true (ofBytes s ++ ofBytes t)).get p = some ⟨[.ptr p 0, .sl q 0 1 s.length none], false, 50, true, true⟩ := by
      rw [get_turn, if_neg (by omega), if_neg (Ne.symm hqp), hp]
    have k2 : (p < (H.turn q 5 true (ofBytes s ++ ofBytes t)).floor) = False := by
      have : (H.turn q 5 true (ofBytes s ++ ofBytes t)).floor = H.floor := rfl
      rw [this]; simp; omega
    refine ⟨(H.turn q 5 true (ofBytes s ++ ofBytes t)).put p ⟨[.ptr p 0, .sl H.next 0 1 (s.length + t.length) none], false, 50, true, true⟩, ?_, ⟨(hN.turn _ _ _ _).put _ _, hfp, hmp, by show p < H.next + 1; omega, .inr ⟨H.next, by omega, by show H.floor ≤ H.next; omega, by omega, by show H.next < H.next + 1; omega, ?_, ?_, ?_⟩⟩, rfl, Nat.le_succ _, fun i hi => ?_⟩
    · refine ecall_W 8 [] _ _ (out := [.int .i64 t.length, .nili]) rfl rfl rfl ?_
      simp only [Tryz.fn22, AmR, number, Nat.reduceAdd]
      simp only [Tryz.fn22_r0, AmR, kp, exe, Arg.val, Env.at, lk, putd, ok1, Option.getD_some, if_true, if_false, reduceCtorEq, Nat.reduceEqDiff]
      simp only [Tryz.fn22_r1, hc, AmR, kp, exe, Arg.val, Env.at, lk, putd, ok1, Option.getD_some, if_true, if_false, reduceCtorEq, Nat.reduceEqDiff, List.map_cons, List.map_nil]
      simp only [Tryz.fn22_r2, hp, takeFrom, ha, AH.store, ofBytes_solid, ofBytes_length, k1, k2, AmR, kp, exe, Arg.val, Env.at, lk, putd, AV.cells?, ok1, okM, Option.getD_some, if_true, if_false, List.getElem?_cons_zero, List.getElem?_cons_succ, reduceCtorEq, Nat.reduceEqDiff, Nat.reduceAdd, Bool.false_eq_true, Bool.true_eq_false, and_true, Nat.reduceLeDiff, putAt, solid, List.all_cons, List.all_nil, Bool.and_self, List.length_cons, List.length_nil, Option.map_some, List.set_cons_zero, List.set_cons_succ]
      simp only [Tryz.fn22_r3, AmR, kp, exe, Arg.val, Env.at, lk, putd, ok1, Option.getD_some, if_true, if_false, Nat.reduceEqDiff, resAll, resOf, and_true]
    · rw [List.length_append]; omega
    · rw [get_put, if_pos rfl, k1, List.length_append]; rfl
    · rw [get_put, if_neg (by omega), get_turn, if_pos rfl, ofBytes_append]
    · rw [get_put, if_neg (by omega), get_turn, if_neg (by omega), if_neg (by omega)]

theorem SB.string {m : Nat} {H : AH} {p : Nat} {s : List UInt8} (h : SB m H p s) (hlen : s.length ≤ 140737488351232) : ∃ H', Tryz.call 17 [.ptr p 0] H = some (.ok (.str s), H') := by
  obtain ⟨hN, hfp, hmp, hpn, h⟩ := h
  have hnew := hN.new
  rcases h with ⟨rfl, hp⟩ | ⟨q, hqp, hfq, hmq, hqn, hs0, hp, hq⟩
  · refine ⟨H, ?_⟩
    refine ecall_W 8 [] _ _ (out := [.str []]) rfl rfl rfl ?_
    have hp' : lk H.blks p = some ⟨[.nilp, .nils], false, 50, true, true⟩ := hp
    simp only [Tryz.fn17, AmR, number]
    simp only [Tryz.fn17_r0, AmR, kp, exe, Arg.val, Env.at, lk, putd, ok1, Option.getD_some, if_true, if_false, reduceCtorEq]
    refine W_drawn' (by kernel_rfl) ?_
    simp only [Tryz.fn17_r1, Tryz.fn17_r1a, hp', hnew, AmR, kp, exe, Arg.val, Env.at, lk, putd, ok1, okM, AH.get, Option.getD_some, if_true, if_false, List.getElem?_cons_zero, List.getElem?_cons_succ, reduceCtorEq, Nat.reduceEqDiff, Nat.reduceAdd, resAll, resOf, and_true, List.nil_append, visH, List.filter_nil, List.flatMap_nil, List.contains_cons, List.contains_nil, Bool.or_false, Option.map_some, Int.cast_ofNat_Int, ↓exe_lenl, lenS_nils]
  · refine ⟨H.kill q, ?_⟩
    refine ecall_W 8 [] _ _ (out := [.str s]) rfl rfl rfl ?_
    have hp' : lk H.blks p = some ⟨[.ptr p 0, .sl q 0 1 s.length none], false, 50, true, true⟩ := hp
    have hq' : lk H.blks q = some ⟨ofBytes s, false, 5, false, true⟩ := hq
    simp only [Tryz.fn17, AmR, number]
    simp only [Tryz.fn17_r0, AmR, kp, exe, Arg.val, Env.at, lk, putd, ok1, Option.getD_some, if_true, if_false, reduceCtorEq]
    refine W_drawn' (by kernel_rfl) ?_
    simp only [Tryz.fn17_r1, Tryz.fn17_r1a, hp', hnew, hs0, AmR, exe, Arg.val, Env.at, lk, putd, ok1, okM, AH.get, Option.getD_some, if_true, if_false, List.getElem?_cons_zero, List.getElem?_cons_succ, reduceCtorEq, Nat.reduceEqDiff, Nat.reduceAdd, true_and, List.nil_append, visH, List.filter_nil, List.flatMap_nil, List.contains_cons, List.contains_nil, Bool.or_false, AH.cellsAt, List.drop_zero, Option.map_some, ↓exe_lenl, lenS_sl]
    have c1 : (5 : Nat) = 5 ∧ false = false ∧ true = true ∧ H.floor ≤ q ∧ (0 : Int) < (s.length : Int) ∧ (s.length : Int) ≤ 140737488351232 := ⟨rfl, rfl, rfl, hfq, by omega, by omega⟩
    have c2 : 0 + s.length ≤ (ofBytes s).length := by rw [ofBytes_length]; omega
    have c3 : (ofBytes s).take s.length = ofBytes s := List.take_of_length_le (by rw [ofBytes_length]; omega)
    simp only [hq', hfq, Int.toNat_natCast, c2, c3, toBytes_of, c1.2.2.2.2.1, c1.2.2.2.2.2, AmR, kp, exe, Arg.val, Env.at, lk, putd, ok1, Option.getD_some, if_true, if_false, reduceCtorEq, Nat.reduceEqDiff, Nat.reduceAdd, resAll, resOf, and_true, List.nil_append, visH, List.flatMap_nil, Option.map_some]

end Go.Am

/- strings.Builder: WriteByte, String with what stays. Conditions: those that each theorem names. -/
namespace Go.Am

/-- What stays: the floor, the blocks below m. -/
def Kept (m : Nat) (H H' : AH) : Prop := H'.floor = H.floor ∧ H.next ≤ H'.next ∧ ∀ i, i < m → H'.get i = H.get i
theorem Kept.refl (m : Nat) (H : AH) : Kept m H H := ⟨rfl, Nat.le_refl _, fun _ _ => rfl⟩
theorem Kept.trans {m : Nat} {H H1 H2 : AH} (h : Kept m H H1) (k : Kept m H1 H2) : Kept m H H2 := ⟨k.1.trans h.1, Nat.le_trans h.2.1 k.2.1, fun i hi => (k.2.2 i hi).trans (h.2.2 i hi)⟩
theorem Kept.push (m : Nat) (H : AH) (hm : m ≤ H.next) (ty : TypeId) (wh : Bool) (cs : List AV) : Kept m H (H.push ty wh cs) := ⟨rfl, Nat.le_succ _, fun _ hi => get_push_old _ _ _ _ (by omega)⟩
theorem Grow.kept {m : Nat} {H H' : AH} (h : Grow H H') (hm : m ≤ H.next) : Kept m H H' := ⟨h.1, h.2.1, fun i hi => h.2.2 i (by omega)⟩

theorem SB.push {m : Nat} {H : AH} {p : Nat} {s : List UInt8} (h : SB m H p s) (ty : TypeId) (wh : Bool) (cs : List AV) : SB m (H.push ty wh cs) p s := by
  obtain ⟨hN, a1, a2, a3, a4⟩ := h
  refine ⟨hN.push _ _ _, a1, a2, by show p < H.next + 1; omega, ?_⟩
  rcases a4 with ⟨b1, b2⟩ | ⟨q, b1, b2, b3, b4, b5, b6, b7⟩
  · exact .inl ⟨b1, by rw [get_push_old _ _ _ _ a3]; exact b2⟩
  · exact .inr ⟨q, b1, b2, b3, by show q < H.next + 1; omega, b5, by rw [get_push_old _ _ _ _ a3]; exact b6, by rw [get_push_old _ _ _ _ b4]; exact b7⟩

theorem SB.writeW {m : Nat} {H : AH} {p : Nat} {s : List UInt8} (h : SB m H p s) (hmn : m ≤ H.next) (t : List UInt8) (h0 : t ≠ []) (hl : s.length + t.length ≤ 70368744177664) :
    ∃ H', Tryz.call 22 [.ptr p 0, .str t] H = some (.ok (.tup [.int .i64 t.length, .nili]), H') ∧ SB m H' p (s ++ t) ∧ H'.floor = H.floor ∧ H.next ≤ H'.next ∧ (∀ i, i < m → H'.get i = H.get i) ∧ ∀ i bk, i < H.next → i ≠ p → H.get i = some bk → bk.wh = true → H'.get i = some bk := by
  obtain ⟨hN, hfp, hmp, hpn, h⟩ := h
  have ht : ofBytes t ≠ [] := by cases t with | nil => exact absurd rfl h0 | cons _ _ => simp [ofBytes]
  rcases h with ⟨rfl, hp⟩ | ⟨q, hqp, hfq, hmq, hqn, hs0, hp, hq⟩
  · have hc := Tryz.copyCheckNew H p _ hfp hp
    unfold Tryz.call at hc
    generalize hG : H.put p ⟨[.ptr p 0, .nils], false, 50, true, true⟩ = G at hc
    have hGn : G.next = H.next := by rw [← hG]; rfl
    have hGf : G.floor = H.floor := by rw [← hG]; rfl
    have hGN : Names G := by rw [← hG]; exact hN.put _ _
    have g0 : G.get p = some ⟨[.ptr p 0, .nils], false, 50, true, true⟩ := by rw [← hG, get_put, if_pos rfl, hp]; rfl
    have g1 : (G.push 5 false (ofBytes t)).get p = _ := (get_push_old G 5 false (ofBytes t) (by omega)).trans g0
    have k2 : (p < (G.push 5 false (ofBytes t)).floor) = False := by
      have : (G.push 5 false (ofBytes t)).floor = G.floor := rfl
      rw [this]; simp; omega
    have b1 : t.length * 2 ≤ 140737488355328 := by simp only [List.length_nil] at hl; omega
    refine ⟨(G.push 5 false (ofBytes t)).put p ⟨[.ptr p 0, .sl G.next 0 1 t.length none], false, 50, true, true⟩, ?_, ⟨(hGN.push _ _ _).put _ _, by show G.floor ≤ p; omega, hmp, by show p < G.next + 1; omega, .inr ⟨G.next, by omega, by show G.floor ≤ G.next; omega, by omega, by show G.next < G.next + 1; omega, ?_, ?_, ?_⟩⟩, hGf, by show H.next ≤ G.next + 1; omega, fun i hi => ?_, fun i bk hi hip hb hwh => ?_⟩
    · refine ecall_W 8 [] _ _ (out := [.int .i64 t.length, .nili]) rfl rfl rfl ?_
      simp only [Tryz.fn22, AmR, number, Nat.reduceAdd]
      simp only [Tryz.fn22_r0, AmR, kp, exe, Arg.val, Env.at, lk, putd, ok1, Option.getD_some, if_true, if_false, reduceCtorEq, Nat.reduceEqDiff]
      simp only [Tryz.fn22_r1, hc, AmR, kp, exe, Arg.val, Env.at, lk, putd, ok1, Option.getD_some, if_true, if_false, reduceCtorEq, Nat.reduceEqDiff, List.map_cons, List.map_nil]
      simp only [Tryz.fn22_r2, g0, takeFrom, aapp, AH.store, ofBytes_solid, ofBytes_length, Nat.div_one, Nat.mod_one, b1, ht, not_false_eq_true, and_self, g1, k2, AmR, kp, exe, Arg.val, Env.at, lk, putd, AV.cells?, ok1, okM, Option.getD_some, if_true, if_false, List.getElem?_cons_zero, List.getElem?_cons_succ, reduceCtorEq, Nat.reduceEqDiff, Nat.reduceAdd, Bool.false_eq_true, Bool.true_eq_false, Nat.reduceLeDiff, putAt, solid, List.all_cons, List.all_nil, Bool.and_self, List.length_cons, List.length_nil, Option.map_some, List.set_cons_zero, List.set_cons_succ]
      simp only [Tryz.fn22_r3, AmR, kp, exe, Arg.val, Env.at, lk, putd, ok1, Option.getD_some, if_true, if_false, Nat.reduceEqDiff, resAll, resOf, and_true]
    · rw [List.nil_append]; exact List.length_pos_iff.2 h0
    · rw [get_put, if_pos rfl, g1]; rfl
    · rw [get_put, if_neg (by omega)]; exact get_push_new _ _ _ _
    · rw [get_put, if_neg (by omega), get_push_old _ _ _ _ (by omega), ← hG, get_put, if_neg (by omega)]
    · rw [get_put, if_neg hip, get_push_old _ _ _ _ (by omega), ← hG, get_put, if_neg hip]; exact hb
  · have hc := Tryz.copyCheck H p _ hp
    unfold Tryz.call at hc
    have ha := aapp_own (H := H) (new := ofBytes t) hq hfq ht (by rw [ofBytes_length]; omega)
    have k1 : (H.turn q 5 true (ofBytes s ++ ofBytes t)).get p = some ⟨[.ptr p 0, .sl q 0 1 s.length none], false, 50, true, true⟩ := by
      rw [get_turn, if_neg (by omega), if_neg (Ne.symm hqp), hp]
    have k2 : (p < (H.turn q 5 true (ofBytes s ++ ofBytes t)).floor) = False := by
      have : (H.turn q 5 true (ofBytes s ++ ofBytes t)).floor = H.floor := rfl
      rw [this]; simp; omega
    refine ⟨(H.turn q 5 true (ofBytes s ++ ofBytes t)).put p ⟨[.ptr p 0, .sl H.next 0 1 (s.length + t.length) none], false, 50, true, true⟩, ?_, ⟨(hN.turn _ _ _ _).put _ _, hfp, hmp, by show p < H.next + 1; omega, .inr ⟨H.next, by omega, by show H.floor ≤ H.next; omega, by omega, by show H.next < H.next + 1; omega, ?_, ?_, ?_⟩⟩, rfl, Nat.le_succ _, fun i hi => ?_, fun i bk hi hip hb hwh => ?_⟩
    · refine ecall_W 8 [] _ _ (out := [.int .i64 t.length, .nili]) rfl rfl rfl ?_
      simp only [Tryz.fn22, AmR, number, Nat.reduceAdd]
      simp only [Tryz.fn22_r0, AmR, kp, exe, Arg.val, Env.at, lk, putd, ok1, Option.getD_some, if_true, if_false, reduceCtorEq, Nat.reduceEqDiff]
      simp only [Tryz.fn22_r1, hc, AmR, kp, exe, Arg.val, Env.at, lk, putd, ok1, Option.getD_some, if_true, if_false, reduceCtorEq, Nat.reduceEqDiff, List.map_cons, List.map_nil]
      simp only [Tryz.fn22_r2, hp, takeFrom, ha, AH.store, ofBytes_solid, ofBytes_length, k1, k2, AmR, kp, exe, Arg.val, Env.at, lk, putd, AV.cells?, ok1, okM, Option.getD_some, if_true, if_false, List.getElem?_cons_zero, List.getElem?_cons_succ, reduceCtorEq, Nat.reduceEqDiff, Nat.reduceAdd, Bool.false_eq_true, Bool.true_eq_false, and_true, Nat.reduceLeDiff, putAt, solid, List.all_cons, List.all_nil, Bool.and_self, List.length_cons, List.length_nil, Option.map_some, List.set_cons_zero, List.set_cons_succ]
      simp only [Tryz.fn22_r3, AmR, kp, exe, Arg.val, Env.at, lk, putd, ok1, Option.getD_some, if_true, if_false, Nat.reduceEqDiff, resAll, resOf, and_true]
    · rw [List.length_append]; omega
    · rw [get_put, if_pos rfl, k1, List.length_append]; rfl
    · rw [get_put, if_neg (by omega), get_turn, if_pos rfl, ofBytes_append]
    · rw [get_put, if_neg (by omega), get_turn, if_neg (by omega), if_neg (by omega)]
    · have hiq : i ≠ q := fun e => by subst e; rw [hq, Option.some.injEq] at hb; subst hb; cases hwh
      rw [get_put, if_neg hip, get_turn, if_neg (by omega), if_neg hiq]; exact hb

theorem SB.writeK {m : Nat} {H : AH} {p : Nat} {s : List UInt8} (h : SB m H p s) (hmn : m ≤ H.next) (t : List UInt8) (h0 : t ≠ []) (hl : s.length + t.length ≤ 70368744177664) :
    ∃ H', Tryz.call 22 [.ptr p 0, .str t] H = some (.ok (.tup [.int .i64 t.length, .nili]), H') ∧ SB m H' p (s ++ t) ∧ Kept m H H' := by
  obtain ⟨H', a1, a2, a3, a4, a5⟩ := h.write hmn t h0 hl
  exact ⟨H', a1, a2, a3, a4, a5⟩

theorem SB.byte {m : Nat} {H : AH} {p : Nat} {s : List UInt8} (h : SB m H p s) (hmn : m ≤ H.next) (c : UInt8) (hl : s.length + 1 ≤ 70368744177664) :
    ∃ H', Tryz.call 16 [.ptr p 0, .int .u8 c.toNat] H = some (.ok .nili, H') ∧ SB m H' p (s ++ [c]) ∧ Kept m H H' := by
  obtain ⟨hN, hfp, hmp, hpn, h⟩ := h
  have ob : ofBytes [c] = [.int .u8 c.toNat] := rfl
  rcases h with ⟨rfl, hp⟩ | ⟨q, hqp, hfq, hmq, hqn, hs0, hp, hq⟩
  · have hc := Tryz.copyCheckNew H p _ hfp hp
    unfold Tryz.call at hc
    generalize hG : H.put p ⟨[.ptr p 0, .nils], false, 50, true, true⟩ = G at hc
    have hGn : G.next = H.next := by rw [← hG]; rfl
    have hGf : G.floor = H.floor := by rw [← hG]; rfl
    have hGN : Names G := by rw [← hG]; exact hN.put _ _
    have g0 : G.get p = some ⟨[.ptr p 0, .nils], false, 50, true, true⟩ := by rw [← hG, get_put, if_pos rfl, hp]; rfl
    generalize hG2 : G.push 5 true [.int .u8 c.toNat] = G2
    have hG2n : G2.next = H.next + 1 := by rw [← hG2, ← hGn]; rfl
    have hG2f : G2.floor = H.floor := by rw [← hG2, ← hGf]; rfl
    have hG2N : Names G2 := by rw [← hG2]; exact hGN.push _ _ _
    have c1 : G2.cellsAt G.next 0 1 = some [.int .u8 c.toNat] := by rw [← hG2]; exact cellsAt_new _ _ _ _ rfl
    have g2 : (G2.push 5 false [.int .u8 c.toNat]).get p = some ⟨[.ptr p 0, .nils], false, 50, true, true⟩ := by
      rw [get_push_old _ _ _ _ (by omega), ← hG2, get_push_old _ _ _ _ (by omega)]; exact g0
    have k2 : (p < (G2.push 5 false [.int .u8 c.toNat]).floor) = False := by
      have : (G2.push 5 false [.int .u8 c.toNat]).floor = G2.floor := rfl
      rw [this]; simp; omega
    refine ⟨(G2.push 5 false [.int .u8 c.toNat]).put p ⟨[.ptr p 0, .sl G2.next 0 1 1 none], false, 50, true, true⟩, ?_, ⟨(hG2N.push _ _ _).put _ _, by show G2.floor ≤ p; omega, hmp, by show p < G2.next + 1; omega, .inr ⟨G2.next, by omega, by show G2.floor ≤ G2.next; omega, by omega, by show G2.next < G2.next + 1; omega, by simp, ?_, ?_⟩⟩, hG2f, by show H.next ≤ G2.next + 1; omega, fun i hi => ?_⟩
    · refine ecall_W 8 [] _ _ (out := [.nili]) rfl rfl rfl ?_
      simp only [Tryz.fn16, AmR, number, Nat.reduceAdd]
      simp only [Tryz.fn16_r0, AmR, kp, exe, Arg.val, Env.at, lk, putd, ok1, Option.getD_some, if_true, if_false, reduceCtorEq, Nat.reduceEqDiff]
      simp only [Tryz.fn16_r1, hc, AmR, kp, exe, Arg.val, Env.at, lk, putd, ok1, Option.getD_some, if_true, if_false, reduceCtorEq, Nat.reduceEqDiff, List.map_cons, List.map_nil]
      simp only [Tryz.fn16_r2, g0, hG2, takeFrom, c1, aapp, Nat.div_one, Nat.mod_one, not_false_eq_true, and_self, AmR, kp, exe, Arg.val, Env.at, lk, putd, AV.cells?, ok1, okM, Option.getD_some, if_true, if_false, List.getElem?_cons_zero, List.getElem?_cons_succ, reduceCtorEq, Nat.reduceEqDiff, Nat.reduceAdd, Nat.reduceMul, Bool.true_eq_false, List.append_nil, Nat.reduceLeDiff, List.map_cons, List.map_nil, putAt, solid, List.all_cons, List.all_nil, Bool.and_self, List.length_cons, List.length_nil, afill, rep, List.reduceReplicate, List.flatten_cons, List.flatten_nil, List.set_cons_zero]
      simp only [Tryz.fn16_r3, g2, k2, AH.store, and_self, AmR, kp, exe, Arg.val, Env.at, lk, putd, AV.cells?, Option.getD_some, if_true, if_false, Nat.reduceEqDiff, Nat.reduceAdd, Bool.false_eq_true, Nat.reduceLeDiff, putAt, solid, List.all_cons, List.all_nil, Bool.and_self, List.length_cons, List.length_nil, Option.map_some, List.set_cons_zero, List.set_cons_succ]
      simp only [Tryz.fn16_r4, exactK_ret, AmR, kp, exe, Arg.val, Env.at, lk, putd, ok1, Option.getD_some, if_true, resAll, resOf, and_true]
    · rw [get_put, if_pos rfl, g2]; rfl
    · rw [get_put, if_neg (by omega)]; exact get_push_new _ _ _ _
    · rw [get_put, if_neg (by omega), get_push_old _ _ _ _ (by omega), ← hG2, get_push_old _ _ _ _ (by omega), ← hG, get_put, if_neg (by omega)]
  · have hc := Tryz.copyCheck H p _ hp
    unfold Tryz.call at hc
    generalize hG2 : H.push 5 true [.int .u8 c.toNat] = G2
    have hG2n : G2.next = H.next + 1 := by rw [← hG2]; rfl
    have hG2f : G2.floor = H.floor := by rw [← hG2]; rfl
    have hG2N : Names G2 := by rw [← hG2]; exact hN.push _ _ _
    have c1 : G2.cellsAt H.next 0 1 = some [.int .u8 c.toNat] := by rw [← hG2]; exact cellsAt_new _ _ _ _ rfl
    have hq2 : G2.get q = some ⟨ofBytes s, false, 5, false, true⟩ := by rw [← hG2, get_push_old _ _ _ _ hqn]; exact hq
    have hp2 : G2.get p = some ⟨[.ptr p 0, .sl q 0 1 s.length none], false, 50, true, true⟩ := by rw [← hG2, get_push_old _ _ _ _ hpn]; exact hp
    have ha := aapp_own (H := G2) (new := [.int .u8 c.toNat]) hq2 (by omega) (by simp) (by simpa using hl)
    have tt : (true && true) = true := rfl
    rw [tt] at ha
    have k1 : (G2.turn q 5 true (ofBytes s ++ [.int .u8 c.toNat])).get p = some ⟨[.ptr p 0, .sl q 0 1 s.length none], false, 50, true, true⟩ := by
      rw [get_turn, if_neg (by omega), if_neg (Ne.symm hqp), hp2]
    have k2 : (p < (G2.turn q 5 true (ofBytes s ++ [.int .u8 c.toNat])).floor) = False := by
      have : (G2.turn q 5 true (ofBytes s ++ [.int .u8 c.toNat])).floor = G2.floor := rfl
      rw [this]; simp; omega
    refine ⟨(G2.turn q 5 true (ofBytes s ++ [.int .u8 c.toNat])).put p ⟨[.ptr p 0, .sl G2.next 0 1 (s.length + 1) none], false, 50, true, true⟩, ?_, ⟨(hG2N.turn _ _ _ _).put _ _, by show G2.floor ≤ p; omega, hmp, by show p < G2.next + 1; omega, .inr ⟨G2.next, by omega, by show G2.floor ≤ G2.next; omega, by omega, by show G2.next < G2.next + 1; omega, ?_, ?_, ?_⟩⟩, hG2f, by show H.next ≤ G2.next + 1; omega, fun i hi => ?_⟩
    · refine ecall_W 8 [] _ _ (out := [.nili]) rfl rfl rfl ?_
      simp only [Tryz.fn16, AmR, number, Nat.reduceAdd]
      simp only [Tryz.fn16_r0, AmR, kp, exe, Arg.val, Env.at, lk, putd, ok1, Option.getD_some, if_true, if_false, reduceCtorEq, Nat.reduceEqDiff]
      simp only [Tryz.fn16_r1, hc, AmR, kp, exe, Arg.val, Env.at, lk, putd, ok1, Option.getD_some, if_true, if_false, reduceCtorEq, Nat.reduceEqDiff, List.map_cons, List.map_nil]
      simp only [Tryz.fn16_r2, hp, hG2, takeFrom, c1, ha, List.length_cons, List.length_nil, AmR, kp, exe, Arg.val, Env.at, lk, putd, AV.cells?, ok1, okM, Option.getD_some, if_true, if_false, List.getElem?_cons_zero, List.getElem?_cons_succ, reduceCtorEq, Nat.reduceEqDiff, Nat.reduceAdd, Nat.reduceMul, Bool.true_eq_false, and_true, List.append_nil, Nat.reduceLeDiff, List.map_cons, List.map_nil, putAt, solid, List.all_cons, List.all_nil, Bool.and_self, List.length_cons, List.length_nil, afill, rep, List.reduceReplicate, List.flatten_cons, List.flatten_nil, List.set_cons_zero]
      simp only [Tryz.fn16_r3, k1, k2, AH.store, and_self, AmR, kp, exe, Arg.val, Env.at, lk, putd, AV.cells?, Option.getD_some, if_true, if_false, Nat.reduceEqDiff, Nat.reduceAdd, Bool.false_eq_true, Nat.reduceLeDiff, putAt, solid, List.all_cons, List.all_nil, Bool.and_self, List.length_cons, List.length_nil, Option.map_some, List.set_cons_zero, List.set_cons_succ]
      simp only [Tryz.fn16_r4, exactK_ret, AmR, kp, exe, Arg.val, Env.at, lk, putd, ok1, Option.getD_some, if_true, resAll, resOf, and_true]
    · rw [List.length_append]; simp
    · rw [get_put, if_pos rfl, k1, List.length_append]; rfl
    · rw [get_put, if_neg (by omega), get_turn, if_pos rfl, ← ob, ofBytes_append]
    · rw [get_put, if_neg (by omega), get_turn, if_neg (by omega), if_neg (by omega), ← hG2, get_push_old _ _ _ _ (by omega)]

theorem SB.stringK {m : Nat} {H : AH} {p : Nat} {s : List UInt8} (h : SB m H p s) (hlen : s.length ≤ 140737488351232) : ∃ H', Tryz.call 17 [.ptr p 0] H = some (.ok (.str s), H') ∧ Kept m H H' ∧ Names H' := by
  obtain ⟨hN, hfp, hmp, hpn, h⟩ := h
  have hnew := hN.new
  rcases h with ⟨rfl, hp⟩ | ⟨q, hqp, hfq, hmq, hqn, hs0, hp, hq⟩
  · refine ⟨H, ?_, Kept.refl _ _, hN⟩
    refine ecall_W 8 [] _ _ (out := [.str []]) rfl rfl rfl ?_
    have hp' : lk H.blks p = some ⟨[.nilp, .nils], false, 50, true, true⟩ := hp
    simp only [Tryz.fn17, AmR, number]
    simp only [Tryz.fn17_r0, AmR, kp, exe, Arg.val, Env.at, lk, putd, ok1, Option.getD_some, if_true, if_false, reduceCtorEq]
    refine W_drawn' (by kernel_rfl) ?_
    simp only [Tryz.fn17_r1, Tryz.fn17_r1a, hp', hnew, AmR, kp, exe, Arg.val, Env.at, lk, putd, ok1, okM, AH.get, Option.getD_some, if_true, if_false, List.getElem?_cons_zero, List.getElem?_cons_succ, reduceCtorEq, Nat.reduceEqDiff, Nat.reduceAdd, resAll, resOf, and_true, List.nil_append, visH, List.filter_nil, List.flatMap_nil, List.contains_cons, List.contains_nil, Bool.or_false, Option.map_some, Int.cast_ofNat_Int, ↓exe_lenl, lenS_nils]
  · refine ⟨H.kill q, ?_, ⟨rfl, Nat.le_refl _, fun i hi => by rw [get_del, if_neg (by omega)]⟩, fun x hx => hN x (mem_del hx)⟩
    refine ecall_W 8 [] _ _ (out := [.str s]) rfl rfl rfl ?_
    have hp' : lk H.blks p = some ⟨[.ptr p 0, .sl q 0 1 s.length none], false, 50, true, true⟩ := hp
    have hq' : lk H.blks q = some ⟨ofBytes s, false, 5, false, true⟩ := hq
    simp only [Tryz.fn17, AmR, number]
    simp only [Tryz.fn17_r0, AmR, kp, exe, Arg.val, Env.at, lk, putd, ok1, Option.getD_some, if_true, if_false, reduceCtorEq]
    refine W_drawn' (by kernel_rfl) ?_
    simp only [Tryz.fn17_r1, Tryz.fn17_r1a, hp', hnew, hs0, AmR, exe, Arg.val, Env.at, lk, putd, ok1, okM, AH.get, Option.getD_some, if_true, if_false, List.getElem?_cons_zero, List.getElem?_cons_succ, reduceCtorEq, Nat.reduceEqDiff, Nat.reduceAdd, true_and, List.nil_append, visH, List.filter_nil, List.flatMap_nil, List.contains_cons, List.contains_nil, Bool.or_false, AH.cellsAt, List.drop_zero, Option.map_some, ↓exe_lenl, lenS_sl]
    have c1 : (5 : Nat) = 5 ∧ false = false ∧ true = true ∧ H.floor ≤ q ∧ (0 : Int) < (s.length : Int) ∧ (s.length : Int) ≤ 140737488351232 := ⟨rfl, rfl, rfl, hfq, by omega, by omega⟩
    have c2 : 0 + s.length ≤ (ofBytes s).length := by rw [ofBytes_length]; omega
    have c3 : (ofBytes s).take s.length = ofBytes s := List.take_of_length_le (by rw [ofBytes_length]; omega)
    simp only [hq', hfq, Int.toNat_natCast, c2, c3, toBytes_of, c1.2.2.2.2.1, c1.2.2.2.2.2, AmR, kp, exe, Arg.val, Env.at, lk, putd, ok1, Option.getD_some, if_true, if_false, reduceCtorEq, Nat.reduceEqDiff, Nat.reduceAdd, resAll, resOf, and_true, List.nil_append, visH, List.flatMap_nil, Option.map_some]

end Go.Am

/- Report in plain words: cells, tables, lines. Conditions: those that each theorem names. -/
namespace Go.Am

/-! ### Cells -/

/-- Two blanks, one behind the other. -/
def dbl : List UInt8 → Bool
  | [] => false
  | c :: t => (c == 32 && t.head? == some 32) || dbl t

def cellB (s : List UInt8) : Bool := (s != []) && decide (s.length ≤ 1048576) && (s.head? != some 32) && (s.getLast? != some 32) && !dbl s && s.all fun b => decide (32 ≤ b.toNat) && decide (b.toNat ≤ 126)

structure CellP (s : List UInt8) : Prop where
  ne : s ≠ []
  len : s.length ≤ 1048576
  first : s.head? ≠ some 32
  last : s.getLast? ≠ some 32
  single : dbl s = false
  plain : ∀ b ∈ s, 32 ≤ b.toNat ∧ b.toNat ≤ 126

theorem cellB_iff (s : List UInt8) : cellB s = true ↔ CellP s := by
  unfold cellB
  simp only [Bool.and_eq_true, bne_iff_ne, ne_eq, decide_eq_true_eq, Bool.not_eq_true', List.all_eq_true]
  exact ⟨fun ⟨⟨⟨⟨⟨a, b⟩, c⟩, d⟩, e⟩, f⟩ => ⟨a, b, c, d, e, f⟩, fun h => ⟨⟨⟨⟨⟨h.ne, h.len⟩, h.first⟩, h.last⟩, h.single⟩, h.plain⟩⟩

def rowB (n : Nat) (r : List (List UInt8)) : Bool := (r != []) && (r.length == n) && r.all cellB
def tabB (rows : List (List (List UInt8))) : Bool := rows.all (rowB (rows.headD []).length)

/-! ### Widths -/

def wid (n : Nat) (rows : List (List (List UInt8))) : List Nat := rows.foldl (fun w r => List.zipWith max w (r.map List.length)) (List.replicate n 0)

/-- The widths have room for a row. -/
def fitsW : List Nat → List (List UInt8) → Prop
  | [], [] => True
  | w :: ws, s :: t => s.length ≤ w ∧ fitsW ws t
  | _, _ => False

theorem fitsW_zip : ∀ {w : List Nat} {r : List (List UInt8)}, w.length = r.length → fitsW (List.zipWith max w (r.map List.length)) r
  | [], [], _ => trivial
  | [], _ :: _, h => by simp at h
  | _ :: _, [], h => by simp at h
  | w :: ws, s :: t, h => ⟨Nat.le_max_right _ _, fitsW_zip (by simpa using h)⟩
theorem fitsW_more : ∀ {w : List Nat} {r q : List (List UInt8)}, fitsW w r → q.length = w.length → fitsW (List.zipWith max w (q.map List.length)) r
  | [], [], [], _, _ => trivial
  | _ :: _, _, [], _, h => by simp at h
  | [], _, _ :: _, _, h => by simp at h
  | [], _ :: _, _, h, _ => h.elim
  | _ :: _, [], _, h, _ => h.elim
  | w :: ws, s :: t, q :: qs, h, hl => ⟨Nat.le_trans h.1 (Nat.le_max_left _ _), fitsW_more h.2 (by simpa using hl)⟩
theorem fitsW_len : ∀ {w : List Nat} {r : List (List UInt8)}, fitsW w r → w.length = r.length
  | [], [], _ => rfl
  | [], _ :: _, h => h.elim
  | _ :: _, [], h => h.elim
  | w :: ws, s :: t, h => by simp [fitsW_len h.2]

theorem fold_len {n : Nat} : ∀ {rows : List (List (List UInt8))} {w : List Nat}, w.length = n → (∀ r ∈ rows, r.length = n) → (rows.foldl (fun w r => List.zipWith max w (r.map List.length)) w).length = n
  | [], w, h, _ => h
  | r :: rows, w, h, hr => fold_len (rows := rows) (by simp [h, hr r (by simp)]) fun q hq => hr q (by simp [hq])
theorem fold_fits {n : Nat} : ∀ {rows : List (List (List UInt8))} {w : List Nat}, w.length = n → (∀ r ∈ rows, r.length = n) → ∀ q, (fitsW w q ∨ q ∈ rows) → fitsW (rows.foldl (fun w r => List.zipWith max w (r.map List.length)) w) q
  | [], w, h, _, q, hq => by rcases hq with hq | hq; exact hq; cases hq
  | r :: rows, w, h, hr, q, hq => by
    refine fold_fits (rows := rows) (by simp [h, hr r (by simp)]) (fun q hq => hr q (by simp [hq])) q ?_
    rcases hq with hq | hq
    · exact .inl (fitsW_more hq (by rw [h]; exact hr r (by simp)))
    · rcases List.mem_cons.1 hq with rfl | hq
      · exact .inl (fitsW_zip (by rw [h]; exact (hr q (by simp)).symm))
      · exact .inr hq
theorem wid_fits {n : Nat} {rows : List (List (List UInt8))} (h : ∀ r ∈ rows, r.length = n) : ∀ r ∈ rows, fitsW (wid n rows) r := fun r hr => fold_fits (by simp) h r (.inr hr)
theorem wid_len {n : Nat} {rows : List (List (List UInt8))} (h : ∀ r ∈ rows, r.length = n) : (wid n rows).length = n := fold_len (by simp) h

/-! ### A table's text -/

def rowTxt : List Nat → List (List UInt8) → List UInt8
  | _, [] => []
  | [], _ :: _ => []
  | w :: ws, s :: t => s ++ (if t.isEmpty then [] else List.replicate (w - s.length + 2) 32 ++ rowTxt ws t)
def tabTxt (w : List Nat) (rows : List (List (List UInt8))) : List UInt8 := rows.flatMap fun r => rowTxt w r ++ [10]
/-- The bytes of a row with its line's end. -/
def lenR : List Nat → List (List UInt8) → Nat
  | _, [] => 0
  | [], _ :: _ => 0
  | w :: ws, s :: t => if t.isEmpty then s.length + 1 else w + 2 + lenR ws t

theorem lenR_eq : ∀ {w : List Nat} {r : List (List UInt8)}, r ≠ [] → fitsW w r → lenR w r = (rowTxt w r).length + 1
  | _, [], h, _ => absurd rfl h
  | [], _ :: _, _, h => h.elim
  | w :: ws, s :: t, _, h => by
    unfold lenR rowTxt
    cases t with
    | nil => simp
    | cons s2 t =>
      have := lenR_eq (r := s2 :: t) (by simp) h.2
      have h1 := h.1
      simp only [List.isEmpty_cons, Bool.false_eq_true, if_false, List.length_append, List.length_replicate]
      omega

def tableT (rows : List (List (List UInt8))) : List UInt8 := tabTxt (wid (rows.headD []).length rows) rows
def tableE (rows : List (List (List UInt8))) : Int := if tabB rows = true then (if (tableT rows).length ≤ 1048576 then 0 else 6) else 1
def tableS (rows : List (List (List UInt8))) : List UInt8 := if tableE rows = 0 then tableT rows else []

theorem tabB_len {rows : List (List (List UInt8))} (h : tabB rows = true) : ∀ r ∈ rows, r ≠ [] ∧ r.length = (rows.headD []).length ∧ ∀ s ∈ r, CellP s := fun r hr => by
  unfold tabB at h
  have := List.all_eq_true.1 h r hr
  simp only [rowB, Bool.and_eq_true, bne_iff_ne, ne_eq, beq_iff_eq, List.all_eq_true] at this
  exact ⟨this.1.1, this.1.2, fun s hs => (cellB_iff s).1 (this.2 s hs)⟩

/-! ### The cells of a line -/

def cutDD : List UInt8 → Option (List UInt8 × List UInt8)
  | [] => none
  | c :: t => if c = 32 ∧ t.head? = some 32 then some ([], c :: t) else (cutDD t).map fun p => (c :: p.1, p.2)
def cellsF : Nat → List UInt8 → List (List UInt8)
  | 0, s => [s]
  | n + 1, s => match cutDD s with
    | none => [s]
    | some (a, b) => a :: cellsF n (b.dropWhile (· == 32))
def cellsL (s : List UInt8) : List (List UInt8) := cellsF s.length s

theorem cutDD_none : ∀ {s : List UInt8}, cutDD s = none ↔ dbl s = false
  | [] => by simp [cutDD, dbl]
  | c :: t => by
    unfold cutDD dbl
    by_cases h : c = 32 ∧ t.head? = some 32
    · rw [if_pos h]; simp [h.1, h.2]
    · rw [if_neg h]
      have h2 : (c == 32 && t.head? == some 32) = false := by
        cases hx : (c == 32 && t.head? == some 32) with
        | false => rfl
        | true => simp only [Bool.and_eq_true, beq_iff_eq] at hx; exact absurd hx h
      rw [h2, Bool.false_or, Option.map_eq_none_iff]
      exact cutDD_none

theorem cutDD_some : ∀ {s a b : List UInt8}, cutDD s = some (a, b) → s = a ++ b ∧ ∃ t, b = 32 :: 32 :: t
  | [], a, b, h => by simp [cutDD] at h
  | c :: t, a, b, h => by
    unfold cutDD at h
    split at h
    · rename_i hc
      simp only [Option.some.injEq, Prod.mk.injEq] at h
      obtain ⟨rfl, rfl⟩ := h
      obtain ⟨rfl, hc⟩ := hc
      cases t with
      | nil => simp at hc
      | cons d t => simp at hc; subst hc; exact ⟨rfl, t, rfl⟩
    · simp only [Option.map_eq_some_iff, Prod.mk.injEq, Prod.exists] at h
      obtain ⟨a', b', h1, rfl, rfl⟩ := h
      obtain ⟨h2, h3⟩ := cutDD_some h1
      exact ⟨by rw [h2]; rfl, h3⟩

theorem pre2 (c : UInt8) (t : List UInt8) : [32, 32].isPrefixOf (c :: t) = true ↔ (c = 32 ∧ t.head? = some 32) := by
  cases t with
  | nil => simp [List.isPrefixOf]
  | cons d t => simp [List.isPrefixOf]; exact ⟨fun ⟨a, b⟩ => ⟨a.symm, b.symm⟩, fun ⟨a, b⟩ => ⟨a.symm, b.symm⟩⟩

theorem index_dd : ∀ (s : List UInt8), Lib.index s [32, 32] = match cutDD s with | none => -1 | some (a, _) => (a.length : Int)
  | [] => rfl
  | c :: t => by
    unfold Lib.index cutDD
    by_cases h : c = 32 ∧ t.head? = some 32
    · rw [if_pos h, if_pos ((pre2 c t).2 h)]; rfl
    · rw [if_neg h, if_neg fun e => h ((pre2 c t).1 e), index_dd t]
      cases hc : cutDD t with
      | none => rfl
      | some p =>
        obtain ⟨a, b⟩ := p
        have : ¬ ((a.length : Int) == -1) = true := by simp
        simp only [Option.map_some, this, List.length_cons]
        simp

theorem contains_dd (s : List UInt8) : Lib.contains s [32, 32] = dbl s := by
  unfold Lib.contains
  rw [index_dd]
  cases hc : cutDD s with
  | none => rw [cutDD_none.1 hc]; rfl
  | some p =>
    have : dbl s = true := by
      cases hd : dbl s with
      | true => rfl
      | false => rw [cutDD_none.2 hd] at hc; cases hc
    rw [this]
    simp

theorem dropWhile_le (s : List UInt8) (p : UInt8 → Bool) : (s.dropWhile p).length ≤ s.length := by
  induction s with
  | nil => simp
  | cons c t ih =>
    rw [List.dropWhile_cons]
    split
    · simp; omega
    · exact Nat.le_refl _

theorem cellsF_more : ∀ (n : Nat) (s : List UInt8), s.length ≤ n → cellsF n s = cellsL s := by
  have key : ∀ (k n m : Nat) (s : List UInt8), s.length ≤ k → s.length ≤ n → s.length ≤ m → cellsF n s = cellsF m s := by
    intro k
    induction k with
    | zero =>
      intro n m s h _ _
      have : s = [] := List.length_eq_zero_iff.1 (by omega)
      subst this
      cases n <;> cases m <;> rfl
    | succ k ih =>
      intro n m s hk hn hm
      cases hs : s with
      | nil => cases n <;> cases m <;> rfl
      | cons c t =>
        rw [← hs]
        obtain ⟨n', rfl⟩ : ∃ n', n = n' + 1 := ⟨n - 1, by rw [hs] at hn; simp at hn; omega⟩
        obtain ⟨m', rfl⟩ : ∃ m', m = m' + 1 := ⟨m - 1, by rw [hs] at hm; simp at hm; omega⟩
        simp only [cellsF]
        cases hc : cutDD s with
        | none => rfl
        | some p =>
          obtain ⟨a, b⟩ := p
          obtain ⟨h1, t', h2⟩ := cutDD_some hc
          have h3 : (b.dropWhile (· == 32)).length + 2 ≤ s.length := by
            have := dropWhile_le t' (· == 32)
            rw [h1, h2]
            simp
            omega
          show a :: cellsF n' (b.dropWhile (· == 32)) = a :: cellsF m' (b.dropWhile (· == 32))
          rw [ih n' m' _ (by omega) (by omega) (by omega)]
  intro n s h
  exact key s.length n s.length s (Nat.le_refl _) h (Nat.le_refl _)

theorem cellsL_eq (s : List UInt8) : cellsL s = match cutDD s with | none => [s] | some (a, b) => a :: cellsL (b.dropWhile (· == 32)) := by
  cases hc : cutDD s with
  | none =>
    unfold cellsL
    cases s with
    | nil => rfl
    | cons c t => simp only [List.length_cons, cellsF, hc]
  | some p =>
    obtain ⟨a, b⟩ := p
    obtain ⟨h1, t', h2⟩ := cutDD_some hc
    have h3 : (b.dropWhile (· == 32)).length + 2 ≤ s.length := by
      have := dropWhile_le t' (· == 32)
      rw [h1, h2]
      simp
      omega
    show cellsF s.length s = _
    obtain ⟨n, hn⟩ : ∃ n, s.length = n + 1 := ⟨s.length - 1, by omega⟩
    rw [hn]
    simp only [cellsF, hc]
    rw [cellsF_more n _ (by omega)]

theorem cutDD_app : ∀ {s : List UInt8} (u : List UInt8), dbl s = false → s.getLast? ≠ some 32 → cutDD (s ++ 32 :: 32 :: u) = some (s, 32 :: 32 :: u)
  | [], u, _, _ => by simp [cutDD]
  | c :: t, u, hd, hl => by
    unfold dbl at hd
    simp only [Bool.or_eq_false_iff] at hd
    have hl' : t.getLast? ≠ some 32 := by
      cases t with
      | nil => simp
      | cons d t => rw [List.getLast?_cons_cons] at hl; exact hl
    have ih := cutDD_app u hd.2 hl'
    rw [List.cons_append]
    unfold cutDD
    rw [if_neg, ih]
    · rfl
    · rintro ⟨rfl, h⟩
      cases t with
      | nil => simp at hl
      | cons d t => simp at h; subst h; simp at hd

theorem dropWhile_rep (n : Nat) (t : List UInt8) (h : t.head? ≠ some 32) : (List.replicate n 32 ++ t).dropWhile (· == 32) = t := by
  induction n with
  | zero =>
    cases t with
    | nil => rfl
    | cons c t =>
      have : ¬ (c == 32) = true := by simpa using h
      simp [this]
  | succ n ih => simp [List.replicate_succ, ih]

theorem cells_row : ∀ {r : List (List UInt8)} {w : List Nat}, r ≠ [] → fitsW w r → (∀ s ∈ r, CellP s) → cellsL (rowTxt w r) = r ∧ (rowTxt w r).head? ≠ some 32 ∧ rowTxt w r ≠ []
  | [], _, h, _, _ => absurd rfl h
  | _ :: _, [], _, h, _ => h.elim
  | s :: t, w :: ws, _, h, hp => by
    have hs := hp s (by simp)
    have hh : ∀ u, (s ++ u).head? ≠ some 32 := fun u => by
      cases hsn : s with
      | nil => exact absurd hsn hs.ne
      | cons c s' => have := hs.first; rw [hsn] at this; simpa using this
    have hne : ∀ u, s ++ u ≠ [] := fun u e => hs.ne (List.append_eq_nil_iff.1 e).1
    refine ⟨?_, hh _, hne _⟩
    cases t with
    | nil =>
      simp only [rowTxt, List.isEmpty_nil, if_true, List.append_nil]
      rw [cellsL_eq, cutDD_none.2 hs.single]
    | cons s2 t =>
      obtain ⟨h1, h2, h3⟩ := cells_row (r := s2 :: t) (w := ws) (by simp) h.2 fun x hx => hp x (by simp [hx])
      have e : rowTxt (w :: ws) (s :: s2 :: t) = s ++ 32 :: 32 :: (List.replicate (w - s.length) 32 ++ rowTxt ws (s2 :: t)) := by
        simp [rowTxt, List.replicate_succ]
      rw [e, cellsL_eq, cutDD_app _ hs.single hs.last]
      have e2 : (32 :: 32 :: (List.replicate (w - s.length) 32 ++ rowTxt ws (s2 :: t)) : List UInt8) = List.replicate (w - s.length + 2) 32 ++ rowTxt ws (s2 :: t) := by simp [List.replicate_succ]
      simp only [e2]
      rw [dropWhile_rep _ _ h2, h1]

/-! ### Lines -/

def linesL : List UInt8 → List (List UInt8) × List UInt8
  | [] => ([], [])
  | c :: t => if c = 10 then ([] :: (linesL t).1, (linesL t).2) else match (linesL t).1 with
    | [] => ([], c :: (linesL t).2)
    | l :: ls => ((c :: l) :: ls, (linesL t).2)

theorem linesL_line : ∀ (l u : List UInt8), (10 : UInt8) ∉ l → linesL (l ++ 10 :: u) = (l :: (linesL u).1, (linesL u).2)
  | [], u, _ => by simp [linesL]
  | c :: l, u, h => by
    have hc : ¬ c = 10 := fun e => h (by simp [e])
    rw [List.cons_append, linesL, if_neg hc, linesL_line l u fun e => h (by simp [e])]
theorem linesL_rest : ∀ (l : List UInt8), (10 : UInt8) ∉ l → linesL l = ([], l)
  | [], _ => rfl
  | c :: l, h => by
    have hc : ¬ c = 10 := fun e => h (by simp [e])
    rw [linesL, if_neg hc, linesL_rest l fun e => h (by simp [e])]
theorem linesL_all {α : Type} (f : α → List UInt8) : ∀ (l : List α) (u : List UInt8), (∀ x ∈ l, (10 : UInt8) ∉ f x) → linesL ((l.flatMap fun x => f x ++ [10]) ++ u) = (l.map f ++ (linesL u).1, (linesL u).2)
  | [], u, _ => by simp
  | x :: l, u, h => by
    rw [List.flatMap_cons, List.append_assoc, List.append_assoc, List.singleton_append, linesL_line _ _ (h x (by simp)), linesL_all f l u fun y hy => h y (by simp [hy])]
    rfl

theorem rowTxt_no10 : ∀ {w : List Nat} {r : List (List UInt8)}, (∀ s ∈ r, CellP s) → (10 : UInt8) ∉ rowTxt w r
  | _, [], _ => by simp [rowTxt]
  | [], _ :: _, _ => by simp [rowTxt]
  | w :: ws, s :: t, h => by
    have h1 : (10 : UInt8) ∉ s := fun e => by have := ((h s (by simp)).plain 10 e).1; simp at this
    unfold rowTxt
    rw [List.mem_append, not_or]
    refine ⟨h1, ?_⟩
    split
    · simp
    · rw [List.mem_append, not_or]
      exact ⟨by simp [List.mem_replicate], rowTxt_no10 fun x hx => h x (by simp [hx])⟩

/-- The rows that a text says. -/
def rowsE (s : List UInt8) : Int := if s.length ≤ 1048576 then (if (linesL s).2 = [] ∧ tableE ((linesL s).1.map cellsL) = 0 ∧ tableT ((linesL s).1.map cellsL) = s then 0 else 4) else 6
def rowsS (s : List UInt8) : List (List (List UInt8)) := if rowsE s = 0 then (linesL s).1.map cellsL else []

/-- A table's rows are read back. -/
theorem rows_table {rows : List (List (List UInt8))} (h : tableE rows = 0) : rowsE (tableT rows) = 0 ∧ rowsS (tableT rows) = rows := by
  have hb : tabB rows = true := by
    unfold tableE at h
    by_cases hh : tabB rows = true
    · exact hh
    · rw [if_neg hh] at h; cases h
  have hl : (tableT rows).length ≤ 1048576 := by
    unfold tableE at h
    rw [if_pos hb] at h
    by_cases hh : (tableT rows).length ≤ 1048576
    · exact hh
    · rw [if_neg hh] at h; cases h
  have hg := tabB_len hb
  have hf := wid_fits fun r hr => (hg r hr).2.1
  have h1 : linesL (tableT rows) = (rows.map (rowTxt (wid (rows.headD []).length rows)), []) := by
    have := linesL_all (rowTxt (wid (rows.headD []).length rows)) rows [] fun r hr => rowTxt_no10 (hg r hr).2.2
    rw [List.append_nil] at this
    unfold tableT tabTxt
    rw [this]
    simp [linesL]
  have h2 : (linesL (tableT rows)).1.map cellsL = rows := by
    rw [h1]
    simp only [List.map_map]
    refine (List.map_congr_left fun r hr => ?_).trans (List.map_id _)
    exact (cells_row (hg r hr).1 (hf r hr) (hg r hr).2.2).1
  have h3 : rowsE (tableT rows) = 0 := by
    unfold rowsE
    rw [if_pos hl, h2, if_pos ⟨by rw [h1], h, rfl⟩]
  exact ⟨h3, by unfold rowsS; rw [if_pos h3, h2]⟩

end Go.Am

/- Rows of strings as arguments; small rows. Conditions: those that each theorem names. -/
namespace Go.Am

/-- u is a slice of these strings; its block's name is below n. -/
def StrsV (n : Nat) (H : AH) (u : AV) (r : List (List UInt8)) : Prop := SliceV H 1 u r.length (r.map AV.str) ∧ ∀ i o z m c, u = .sl i o z m c → i < n
/-- v is a slice of slices of strings. -/
def TabV (n : Nat) (H : AH) (v : AV) (rows : List (List (List UInt8))) : Prop := (∀ i o z m c, v = .sl i o z m c → i < n) ∧ ∃ us, us.length = rows.length ∧ SliceV H 1 v rows.length us ∧ ∀ (i : Nat) u r, us[i]? = some u → rows[i]? = some r → StrsV n H u r

theorem SliceV.old {H H' : AH} {z : Nat} {v : AV} {n lo : Nat} {cs : List AV} (h : SliceV H z v n cs) (hn : ∀ i o z n c, v = .sl i o z n c → i < lo) (hk : ∀ i, i < lo → H'.get i = H.get i) : SliceV H' z v n cs := by
  cases h with
  | nil => exact .nil
  | emp => exact .emp
  | sl hb hl => exact .sl ((hk _ (hn _ _ _ _ _ rfl)).trans hb) hl

theorem StrsV.old {n n' : Nat} {H H' : AH} {u : AV} {r : List (List UInt8)} (h : StrsV n H u r) (hn : n ≤ n') (hk : ∀ i, i < n → H'.get i = H.get i) : StrsV n' H' u r :=
  ⟨h.1.old h.2 hk, fun i o z m c e => Nat.lt_of_lt_of_le (h.2 i o z m c e) hn⟩
theorem TabV.old {n n' : Nat} {H H' : AH} {v : AV} {rows : List (List (List UInt8))} (h : TabV n H v rows) (hn : n ≤ n') (hk : ∀ i, i < n → H'.get i = H.get i) : TabV n' H' v rows := by
  obtain ⟨h1, us, h2, h3, h4⟩ := h
  exact ⟨fun i o z m c e => Nat.lt_of_lt_of_le (h1 i o z m c e) hn, us, h2, h3.old h1 hk, fun i u r hu hr => (h4 i u r hu hr).old hn hk⟩

/-- An element of a slice. -/
theorem SliceV.at {H : AH} {v : AV} {n : Nat} {cs : List AV} (h : SliceV H 1 v n cs) {i : Nat} (hi : i < n) {x : AV} (hx : cs[i]? = some x) : ∃ q o c b, v = .sl q o 1 n c ∧ H.get q = some b ∧ b.cells[o + i * 1]? = some x := by
  rcases h.cases with ⟨rfl, h, _⟩ | ⟨rfl, h, _⟩ | ⟨q, o, c, b, rfl, hb, hl, hcs⟩
  · omega
  · omega
  · refine ⟨q, o, c, b, rfl, hb, ?_⟩
    rw [← hcs, List.getElem?_take, if_pos (by omega), List.getElem?_drop] at hx
    rw [Nat.mul_one]
    exact hx

theorem TabV.lenS {n : Nat} {H : AH} {v : AV} {rows : List (List (List UInt8))} (h : TabV n H v rows) : lenS v = some rows.length := by
  obtain ⟨_, us, _, h3, _⟩ := h; exact h3.lenS
theorem StrsV.lenS {n : Nat} {H : AH} {u : AV} {r : List (List UInt8)} (h : StrsV n H u r) : lenS u = some r.length := h.1.lenS

/-- A row of such a slice. -/
theorem TabV.row {n : Nat} {H : AH} {v : AV} {rows : List (List (List UInt8))} (h : TabV n H v rows) {i : Nat} {r : List (List UInt8)} (hr : rows[i]? = some r) : ∃ q o c b u, v = .sl q o 1 rows.length c ∧ H.get q = some b ∧ b.cells[o + i * 1]? = some u ∧ StrsV n H u r := by
  obtain ⟨_, us, h2, h3, h4⟩ := h
  have hi : i < rows.length := by
    by_cases hlt : i < rows.length
    · exact hlt
    · rw [List.getElem?_eq_none (by omega)] at hr; cases hr
  have hu : us[i]? = some us[i] := List.getElem?_eq_getElem (by omega)
  obtain ⟨q, o, c, b, e1, e2, e3⟩ := h3.at hi hu
  exact ⟨q, o, c, b, _, e1, e2, e3, h4 i _ r hu hr⟩
theorem StrsV.cell {n : Nat} {H : AH} {u : AV} {r : List (List UInt8)} (h : StrsV n H u r) {k : Nat} {s : List UInt8} (hs : r[k]? = some s) : ∃ q o c b, u = .sl q o 1 r.length c ∧ H.get q = some b ∧ b.cells[o + k * 1]? = some (.str s) := by
  have hk : k < r.length := by
    by_cases hlt : k < r.length
    · exact hlt
    · rw [List.getElem?_eq_none (by omega)] at hs; cases hs
  exact h.1.at hk (by simp [hs])

theorem drop_cons' {α : Type} {l : List α} {i : Nat} {x : α} (h : l[i]? = some x) : l.drop i = x :: l.drop (i + 1) := by
  have hi : i < l.length := by
    by_cases hlt : i < l.length
    · exact hlt
    · rw [List.getElem?_eq_none (by omega)] at h; cases h
  rw [List.drop_eq_getElem_cons hi]
  rw [List.getElem?_eq_getElem hi, Option.some.injEq] at h
  rw [h]

theorem succ_wrap {i : Nat} (h : i ≤ 4611686018427387904) : IntKind.i64.wrap ((i : Int) + 1) = ((i + 1 : Nat) : Int) := by rw [IntWalk.i64_in _ (by omega)]; omega

/-! ### small -/

def smallRow (r : List (List UInt8)) : Bool := decide (r.length ≤ 60) && r.all fun s => decide (s.length ≤ 1000)
def smallB (rows : List (List (List UInt8))) : Bool := decide (rows.length ≤ 60) && rows.all smallRow

theorem Tryz.smallIn (n : Nat) (H : AH) (v : AV) (rows : List (List (List UInt8))) (hv : TabV n H v rows) (i : Nat) (r : List (List UInt8)) (hr : rows[i]? = some r) (hrl : r.length ≤ 60) (hil : i ≤ 60) (K : AX → St → Prop) (ks : List Fr) (L : ACode) (hL : L = .loop (some [0, 3, 4]) Tryz.fn5_l0) :
    ∀ (m k : Nat), m + k = r.length → ((r.drop k).all (fun s => decide (s.length ≤ 1000)) = true → ∀ w w', Nx Tryz.call K ks [(26, .bool false), (0, v), (3, .int .i64 i), (4, w), (26, w')] H) →
      ((r.drop k).all (fun s => decide (s.length ≤ 1000)) = false → ∀ e, e.at 2 = .bool false → Rt Tryz.call K ks e H) →
      W Tryz.call K (.block 2 :: ks) [(0, v), (3, .int .i64 i), (4, .int .i64 k)] H L := by
  obtain ⟨q, o, c, b, u, e1, e2, e3, hu⟩ := hv.row hr
  have hul := hu.lenS
  have hi0 : (0 : Int) ≤ (i : Int) := by omega
  have hilt : i < rows.length := by
    by_cases hlt : i < rows.length
    · exact hlt
    · rw [List.getElem?_eq_none (by omega)] at hr; cases hr
  have hi1 : ((i : Int) < (rows.length : Int)) = True := eq_true (by omega)
  intro m
  induction m with
  | zero =>
    intro k hk hd hf
    refine W_loopN hL ?_
    have hk' : k = r.length := by omega
    subst hk'
    simp only [e1, Tryz.fn5_l0, Tryz.fn5_r8, hi0, hi1, e2, e3, hul, Int.toNat_natCast, and_self, AmR, kp, pushA, exe, Arg.val, Env.at, lk, putd, ok1, okM, abin, Option.getD_some, if_true, if_false, reduceCtorEq, Nat.reduceEqDiff, Option.map_some, ↓exe_lenl]
    exact ⟨fun h => absurd h (by omega), fun _ => by rw [← e1]; exact hd (by simp) _ _⟩
  | succ m ih =>
    intro k hk hd hf
    refine W_loopN hL ?_
    have hkl : k < r.length := by omega
    have hs : r[k]? = some r[k] := List.getElem?_eq_getElem hkl
    obtain ⟨q2, o2, c2, b2, u1, u2, u3⟩ := hu.cell hs
    have hdk := drop_cons' hs
    rw [hdk] at hd hf
    generalize r[k] = s at *
    have hk0 : (0 : Int) ≤ (k : Int) := by omega
    have hk1 : ((k : Int) < (r.length : Int)) = True := eq_true (by omega)
    have hw := succ_wrap (i := k) (by omega)
    subst u1
    simp only [e1, Tryz.fn5_l0, Tryz.fn5_r8, hi0, hi1, e2, e3, hul, hk1, Int.toNat_natCast, and_self, AmR, kp, pushA, exe, Arg.val, Env.at, lk, putd, ok1, okM, abin, Option.getD_some, if_true, if_false, reduceCtorEq, Nat.reduceEqDiff, decide_true, Option.map_some, ↓exe_lenl]
    simp only [Tryz.fn5_r9, hi0, hi1, e2, e3, hk0, hk1, u2, u3, Int.toNat_natCast, and_self, AmR, kp, pushA, exe, Arg.val, Env.at, lk, putd, ok1, okM, abin, Option.getD_some, if_true, if_false, reduceCtorEq, Nat.reduceEqDiff]
    refine ⟨fun hgt => ?_, fun hle => ?_⟩
    · simp only [Tryz.fn5_r10, AmR, kp, exe, Arg.val, Env.at, lk, putd, ok1, Option.getD_some, if_true, if_false, reduceCtorEq, Nat.reduceEqDiff]
      exact hf (by simp; omega) _ rfl
    · simp only [Tryz.fn5_r11, hw, AmR, kp, exe, Arg.val, Env.at, lk, putd, ok1, okM, abin, Option.getD_some, if_true, if_false, reduceCtorEq, Nat.reduceEqDiff]
      rw [← e1]
      have hsl : s.length ≤ 1000 := by omega
      exact ih (k + 1) (by omega) (fun h => hd (by simp [hsl, h])) fun h => hf (by simp [hsl, h])

theorem Tryz.smallOut (n : Nat) (H : AH) (v : AV) (rows : List (List (List UInt8))) (hv : TabV n H v rows) (hrl : rows.length ≤ 60) (K : AX → St → Prop) (ks : List Fr) (L : ACode) (hL : L = .loop (some [0, 3]) Tryz.fn5_l1) :
    ∀ (m i : Nat), m + i = rows.length → ((rows.drop i).all smallRow = true → ∀ e, Nx Tryz.call K ks e H) →
      ((rows.drop i).all smallRow = false → ∀ e, e.at 2 = .bool false → Rt Tryz.call K ks e H) →
      W Tryz.call K (.block 0 :: ks) [(0, v), (3, .int .i64 i)] H L := by
  have hvl := hv.lenS
  intro m
  induction m with
  | zero =>
    intro i hi hd hf
    refine W_loopN hL ?_
    have hi' : i = rows.length := by omega
    subst hi'
    simp only [Tryz.fn5_l1, Tryz.fn5_r4, hvl, AmR, kp, pushA, exe, Arg.val, Env.at, lk, putd, ok1, okM, abin, Option.getD_some, if_true, if_false, reduceCtorEq, Nat.reduceEqDiff, Option.map_some, ↓exe_lenl]
    exact ⟨fun h => absurd h (by omega), fun _ => hd (by simp) _⟩
  | succ m ih =>
    intro i hi hd hf
    refine W_loopN hL ?_
    have hil : i < rows.length := by omega
    have hr : rows[i]? = some rows[i] := List.getElem?_eq_getElem hil
    have hdi := drop_cons' hr
    rw [hdi] at hd hf
    generalize rows[i] = r at *
    obtain ⟨q, o, c, b, u, e1, e2, e3, hu⟩ := hv.row hr
    have hul := hu.lenS
    have hi0 : (0 : Int) ≤ (i : Int) := by omega
    have hi1 : ((i : Int) < (rows.length : Int)) = True := eq_true (by omega)
    have hw := succ_wrap (i := i) (by omega)
    have hin := Tryz.smallIn n H v rows hv i r hr
    subst e1
    simp only [Tryz.fn5_l1, Tryz.fn5_r4, hi1, AmR, kp, pushA, exe, Arg.val, Env.at, lk, putd, ok1, okM, abin, Option.getD_some, if_true, if_false, reduceCtorEq, Nat.reduceEqDiff, decide_true, Option.map_some, ↓exe_lenl, lenS_sl]
    simp only [Tryz.fn5_r5, hi0, hi1, e2, e3, hul, Int.toNat_natCast, and_self, AmR, kp, pushA, exe, Arg.val, Env.at, lk, putd, ok1, okM, abin, Option.getD_some, if_true, if_false, reduceCtorEq, Nat.reduceEqDiff, Option.map_some, ↓exe_lenl]
    refine ⟨fun hgt => ?_, fun hle => ?_⟩
    · simp only [Tryz.fn5_r6, AmR, kp, exe, Arg.val, Env.at, lk, putd, ok1, Option.getD_some, if_true, if_false, reduceCtorEq, Nat.reduceEqDiff]
      exact hf (by simp [smallRow]; omega) _ rfl
    · have hrl : r.length ≤ 60 := by omega
      simp only [Tryz.fn5_r7, AmR, kp, exe, Arg.val, Env.at, lk, putd, ok1, Option.getD_some, if_true, if_false, reduceCtorEq, Nat.reduceEqDiff]
      refine hin hrl (by omega) K _ _ rfl r.length 0 (by omega) (fun hall w w' => ?_) (fun hall e he => ?_)
      · rw [List.drop_zero] at hall
        simp only [Tryz.fn5_r12, hw, AmR, kp, exe, Arg.val, Env.at, lk, putd, ok1, okM, abin, Option.getD_some, if_true, if_false, reduceCtorEq, Nat.reduceEqDiff]
        have hsr : smallRow r = true := by simp [smallRow, hrl, hall]
        exact ih (i + 1) (by omega) (fun h => hd (by simp only [List.all_cons, hsr, h, Bool.and_self])) fun h => hf (by simp only [List.all_cons, hsr, h, Bool.and_false])
      · rw [List.drop_zero] at hall
        have hsr : smallRow r = false := by simp [smallRow, hall]
        simp only [Rt_block, Rt_code]
        exact hf (by simp only [List.all_cons, hsr, Bool.false_and]) e he

theorem Tryz.small (n : Nat) (H : AH) (v : AV) (rows : List (List (List UInt8))) (hv : TabV n H v rows) : Tryz.call 5 [v] H = some (.ok (.bool (smallB rows)), H) := by
  have hvl := hv.lenS
  refine ecall_W 8 [] _ _ (out := [.bool (smallB rows)]) rfl rfl rfl ?_
  show W Tryz.call _ _ _ _ _
  simp only [Tryz.fn5, Tryz.fn5_r0, Tryz.fn5_r1, hvl, AmR, kp, pushA, exe, number, Arg.val, Env.at, lk, putd, ok1, okM, abin, Option.getD_some, if_true, if_false, reduceCtorEq, Nat.reduceEqDiff, Option.map_some, ↓exe_lenl]
  refine ⟨fun hgt => ?_, fun hle => ?_⟩
  · simp only [Tryz.fn5_r2, exactK_ret, AmR, kp, exe, Arg.val, Env.at, lk, putd, ok1, Option.getD_some, if_true, if_false, reduceCtorEq, Nat.reduceEqDiff, resAll, resOf, Option.some.injEq, List.cons.injEq, AV.bool.injEq, and_true]
    simp [smallB]; omega
  · have hrl : rows.length ≤ 60 := by omega
    simp only [Tryz.fn5_r3, AmR, kp, exe, Arg.val, Env.at, lk, putd, ok1, Option.getD_some, if_true, if_false, reduceCtorEq, Nat.reduceEqDiff]
    refine Tryz.smallOut n H v rows hv hrl _ _ _ rfl rows.length 0 (by omega) (fun hall e => ?_) (fun hall e he => ?_)
    · rw [List.drop_zero] at hall
      simp only [Tryz.fn5_r13, exactK_ret, AmR, kp, exe, Arg.val, Env.at, lk, putd, ok1, Option.getD_some, if_true, resAll, resOf, Option.some.injEq, List.cons.injEq, AV.bool.injEq, and_true]
      simp [smallB, hrl, hall]
    · rw [List.drop_zero] at hall
      simp only [Rt_code, Rt_nil, exactK_ret, resAll, resOf, he]
      simp [smallB, hall]

end Go.Am

/- Cells, of the program and of the reference. Conditions: those that each theorem names. -/
namespace Go.Am

def plainC (b : UInt8) : Bool := decide (32 ≤ b.toNat) && decide (b.toNat ≤ 126)

theorem cellB_cons {s : List UInt8} {c d : UInt8} (hc : s[0]? = some c) (hd : s[s.length - 1]? = some d) : cellB s = (decide (s.length ≤ 1048576) && !(c == 32) && !(d == 32) && !dbl s && s.all plainC) := by
  have h1 : (s != []) = true := by cases s with | nil => simp at hc | cons => rfl
  have h2 : s.head? = some c := by cases s with | nil => simp at hc | cons => simpa using hc
  have h3 : s.getLast? = some d := by rw [List.getLast?_eq_getElem?]; exact hd
  unfold cellB
  rw [h1, h2, h3]
  rfl

theorem Tryz.contains (s p : List UInt8) (H : AH) (h : s.length < 4294967281) : Tryz.call 41 [.str s, .str p] H = some (.ok (.bool (Lib.contains s p)), H) :=
  ecall_ext 8 [] _ _ (g := gContains) rfl _ H (by unfold gContains; simp only [h, if_true]; rfl)

theorem Tryz.cellLoop (s : List UInt8) (hs : s.length ≤ 4000000) (H : AH) (K : AX → St → Prop) (ks : List Fr) (L : ACode) (hL : L = .loop (some [0, 29, 30]) Tryz.fn26_l0) : ∀ (n i : Nat), n + i = s.length →
    ((s.drop i).all plainC = true → ∀ e, Nx Tryz.call K ks e H) → ((s.drop i).all plainC = false → ∀ e, e.at 2 = .bool false → Rt Tryz.call K ks e H) →
    W Tryz.call K (.block 0 :: ks) [(0, .str s), (29, .int .i64 s.length), (30, .int .i64 i)] H L := by
  intro n
  induction n with
  | zero =>
    intro i hi hk hr
    refine W_loopN hL ?_
    have hi' : i = s.length := by omega
    subst hi'
    simp only [Tryz.fn26_l0, Tryz.fn26_r6, AmR, kp, pushA, exe, Arg.val, Env.at, lk, putd, okM, abin, Option.getD_some, if_true, if_false, reduceCtorEq, Nat.reduceEqDiff]
    refine ⟨fun h => absurd h (by omega), fun _ => hk (by rw [List.drop_length]; rfl) _⟩
  | succ n ih =>
    intro i hi hk hr
    refine W_loopN hL ?_
    obtain ⟨c, hc⟩ : ∃ c, s[i]? = some c := ⟨_, List.getElem?_eq_getElem (by omega)⟩
    rw [drop_cons' hc, List.all_cons] at hk hr
    have h0 : (0 : Int) ≤ (i : Int) := by omega
    have h1 : ((i : Int) < (s.length : Int)) = True := eq_true (by omega)
    have hw := succ_wrap (i := i) (by omega)
    simp only [Tryz.fn26_l0, Tryz.fn26_r6, h1, AmR, kp, pushA, exe, Arg.val, Env.at, lk, putd, okM, abin, Option.getD_some, if_true, if_false, reduceCtorEq, Nat.reduceEqDiff, decide_true]
    simp only [Tryz.fn26_r7, AmR, kp, exe, Arg.val, Env.at, lk, putd, ok1, Option.getD_some, if_true, if_false, reduceCtorEq, Nat.reduceEqDiff]
    by_cases a1 : (c.toNat : Int) < 32
    · have e1 : ((c.toNat : Int) < 32) = True := eq_true a1
      have e3 : plainC c = false := by simp [plainC]; omega
      simp only [Tryz.fn26_r8, h0, Int.toNat_natCast, hc, e1, AmR, kp, pushA, exe, Arg.val, Env.at, lk, putd, ok1, okM, abin, Option.getD_some, if_true, if_false, reduceCtorEq, Nat.reduceEqDiff, decide_true, Option.map_some]
      simp only [Tryz.fn26_r9, AmR, kp, exe, Arg.val, Env.at, lk, putd, ok1, Option.getD_some, if_true, if_false, reduceCtorEq, Nat.reduceEqDiff]
      exact hr (by rw [e3]; rfl) _ rfl
    · have e1 : ((c.toNat : Int) < 32) = False := eq_false a1
      by_cases a2 : (c.toNat : Int) > 126
      · have e2 : ((c.toNat : Int) > 126) = True := eq_true a2
        have e3 : plainC c = false := by simp [plainC]; omega
        simp only [Tryz.fn26_r8, h0, Int.toNat_natCast, hc, e1, e2, AmR, kp, pushA, exe, Arg.val, Env.at, lk, putd, ok1, okM, abin, Option.getD_some, if_true, if_false, reduceCtorEq, Nat.reduceEqDiff, decide_true, decide_false, Bool.false_eq_true, Option.map_some]
        simp only [Tryz.fn26_r9, AmR, kp, exe, Arg.val, Env.at, lk, putd, ok1, Option.getD_some, if_true, if_false, reduceCtorEq, Nat.reduceEqDiff]
        exact hr (by rw [e3]; rfl) _ rfl
      · have e2 : ((c.toNat : Int) > 126) = False := eq_false a2
        have e3 : plainC c = true := by simp [plainC]; omega
        simp only [Tryz.fn26_r8, h0, Int.toNat_natCast, hc, e1, e2, AmR, kp, pushA, exe, Arg.val, Env.at, lk, putd, ok1, okM, abin, Option.getD_some, if_true, if_false, reduceCtorEq, Nat.reduceEqDiff, decide_false, Bool.false_eq_true, Option.map_some]
        simp only [Tryz.fn26_r10, hw, AmR, kp, exe, Arg.val, Env.at, lk, putd, ok1, okM, abin, Option.getD_some, if_true, if_false, reduceCtorEq, Nat.reduceEqDiff]
        exact ih (i + 1) (by omega) (fun h => hk (by rw [e3, h]; rfl)) fun h => hr (by rw [e3, h]; rfl)

theorem Tryz.cell (s : List UInt8) (hs : s.length ≤ 4000000) (H : AH) : Tryz.call 26 [.str s] H = some (.ok (.bool (cellB s)), H) := by
  refine ecall_flat 8 [] _ _ (out := [.bool (cellB s)]) rfl rfl rfl (views_flat rfl (views_nil H 8)) rfl ?_
  show W Tryz.call _ _ _ _ _
  cases hsn : s with
  | nil =>
    simp only [Tryz.fn26, Tryz.fn26_r0, Tryz.fn26_r1, Tryz.fn26_r2, Tryz.fn26_r3, Tryz.fn26_r4, beq_self_eq_true, flatK_ret, cellB, AmR, kp, pushA, exe, number, Arg.val, Env.at, lk, putd, ok1, okM, abin, Option.getD_some, if_true, if_false, reduceCtorEq, Nat.reduceEqDiff, decide_true, resAll, resOf, Option.some.injEq, List.cons.injEq, AV.bool.injEq, and_true, List.append_nil, Nat.reduceLeDiff, List.all_nil, Bool.and_true, List.length_nil, bne_self_eq_false]
    rfl
  | cons c0 l =>
    rw [← hsn]
    have hb : (s == ([] : List UInt8)) = false := by rw [hsn]; rfl
    have hl0 : 0 < s.length := by rw [hsn]; simp
    have hc : s[0]? = some c0 := by rw [hsn]; rfl
    obtain ⟨d, hd⟩ : ∃ d, s[s.length - 1]? = some d := ⟨_, List.getElem?_eq_getElem (by omega)⟩
    have hcb := cellB_cons hc hd
    have hct := Tryz.contains s [32, 32]
    rw [contains_dd] at hct
    have hct := fun H => hct H (by omega)
    have h0 : (0 : Int) ≤ 0 := Int.le_refl 0
    have hw : IntKind.i64.wrap ((s.length : Int) - 1) = ((s.length - 1 : Nat) : Int) := by rw [IntWalk.i64_in _ (by omega)]; omega
    have hw0 : (0 : Int) ≤ ((s.length - 1 : Nat) : Int) := by omega
    have ec : ∀ x : UInt8, ((x.toNat : Int) == 32) = (x == 32) := fun x => by
      cases hx : x == 32 with
      | true => rw [beq_iff_eq] at hx; subst hx; rfl
      | false =>
        have : ¬ x = 32 := by simpa using hx
        simp only [beq_eq_false_iff_ne, ne_eq]
        intro e
        exact this (UInt8.toNat_inj.1 (by have h32 : (32 : UInt8).toNat = 32 := rfl; omega))
    clear hsn
    by_cases a1 : (s.length : Int) > 1048576
    · have e1 : ((s.length : Int) > 1048576) = True := eq_true a1
      have e2 : cellB s = false := by rw [hcb, decide_eq_false (by omega)]; rfl
      simp only [Tryz.fn26, Tryz.fn26_r0, Tryz.fn26_r1, Tryz.fn26_r2, Tryz.fn26_r3, Tryz.fn26_r4, hb, e1, e2, flatK_ret, AmR, kp, pushA, exe, number, Arg.val, Env.at, lk, putd, ok1, okM, abin, Option.getD_some, if_true, if_false, reduceCtorEq, Nat.reduceEqDiff, decide_true, Bool.false_eq_true, resAll, resOf, List.append_nil]
    · have e1 : ((s.length : Int) > 1048576) = False := eq_false a1
      have e1' : decide (s.length ≤ 1048576) = true := decide_eq_true (by omega)
      rw [e1'] at hcb
      have hcz := ec c0
      have hdz := ec d
      generalize (c0 == 32) = b2 at hcz hcb
      generalize (d == 32) = b3 at hdz hcb
      generalize dbl s = b4 at hct hcb
      cases b2 <;> cases b3 <;> cases b4 <;> simp only [Tryz.fn26, Tryz.fn26_r0, Tryz.fn26_r1, Tryz.fn26_r2, Tryz.fn26_r3, Tryz.fn26_r4, hb, e1, h0, Int.toNat_zero, hc, hcz, hw, hw0, Int.toNat_natCast, hd, hdz, hct, hcb, Bool.not_true, Bool.not_false, Bool.true_and, Bool.false_and, flatK_ret, AmR, kp, pushA, exe, number, Arg.val, Env.at, lk, putd, ok1, okM, abin, Option.getD_some, if_true, if_false, Bool.not_true, Bool.not_false, reduceCtorEq, Nat.reduceEqDiff, decide_false, Bool.false_eq_true, resAll, resOf, List.append_nil, List.map_cons, List.map_nil, Bool.and_true, Bool.and_self, Option.map_some]
      simp only [Tryz.fn26_r5, AmR, kp, exe, Arg.val, Env.at, lk, putd, ok1, Option.getD_some, if_true, if_false, reduceCtorEq, Nat.reduceEqDiff]
      refine Tryz.cellLoop s hs _ _ _ _ rfl s.length 0 (by omega) (fun h e => ?_) fun h e he => ?_
      · rw [List.drop_zero] at h
        simp only [Tryz.fn26_r11, flatK_ret, h, AmR, kp, exe, Arg.val, Env.at, lk, putd, ok1, Option.getD_some, if_true, resAll, resOf]
      · rw [List.drop_zero] at h
        simp only [Rt_code, Rt_nil, flatK_ret, resAll, resOf, he, h]

/-! ### The reference's -/

def chkC : Option UInt8 → List UInt8 → Bool
  | _, [] => true
  | p, c :: t => plainC c && !(p == some 32 && c == 32) && chkC (some c) t
theorem chkC_eq : ∀ (t : List UInt8) (p : Option UInt8), chkC p t = (t.all plainC && !(p == some 32 && t.head? == some 32) && !dbl t)
  | [], p => by simp [chkC, dbl]
  | c :: t, p => by
    unfold chkC dbl
    rw [chkC_eq t (some c), List.all_cons, List.head?_cons]
    cases plainC c <;> cases t.all plainC <;> cases dbl t <;> simp <;> (try (intros; simp_all))
theorem chkC_none (t : List UInt8) : chkC none t = (t.all plainC && !dbl t) := by rw [chkC_eq]; simp

theorem beq32 (x : UInt8) : ((x.toNat : Int) == 32) = (x == 32) := by
  cases hx : x == 32 with
  | true => rw [beq_iff_eq] at hx; subst hx; rfl
  | false =>
    have : ¬ x = 32 := by simpa using hx
    simp only [beq_eq_false_iff_ne, ne_eq]
    intro e
    exact this (UInt8.toNat_inj.1 (by have h32 : (32 : UInt8).toNat = 32 := rfl; omega))

end Go.Am

/- The widths of a table's columns, and its size. Conditions: those that each theorem names. -/
namespace Go.Am

def GrowN (H H' : AH) : Prop := Grow H H' ∧ (Names H → Names H')
theorem GrowN.push (H : AH) (ty : TypeId) (wh : Bool) (cs : List AV) : GrowN H (H.push ty wh cs) := ⟨Grow.push _ _ _ _, fun h => h.push _ _ _⟩

def intsC (w : List Nat) : List AV := w.map fun (n : Nat) => AV.int .i64 (n : Int)

def updA : List Nat → Nat → List (List UInt8) → List Nat
  | w, _, [] => w
  | w, k, s :: t => updA (w.set k (max (w.getD k 0) s.length)) (k + 1) t

theorem updA_eq : ∀ (t : List (List UInt8)) (pre ws : List Nat), ws.length = t.length → updA (pre ++ ws) pre.length t = pre ++ List.zipWith max ws (t.map List.length)
  | [], pre, ws, h => by
    have : ws = [] := List.length_eq_zero_iff.1 (by simpa using h)
    subst this; simp [updA]
  | s :: t, pre, [], h => by simp at h
  | s :: t, pre, w :: ws, h => by
    have e1 : (pre ++ w :: ws).set pre.length (max ((pre ++ w :: ws).getD pre.length 0) s.length) = (pre ++ [max w s.length]) ++ ws := by
      rw [List.set_append_right _ _ (Nat.le_refl _), Nat.sub_self]
      simp [List.getD_eq_getElem?_getD]
    have e2 : pre.length + 1 = (pre ++ [max w s.length]).length := by simp
    unfold updA
    rw [e1, e2, updA_eq t _ ws (by simpa using h)]
    simp
theorem updA_zero {w : List Nat} {t : List (List UInt8)} (h : w.length = t.length) : updA w 0 t = List.zipWith max w (t.map List.length) := updA_eq t [] w h
theorem updA_len : ∀ (t : List (List UInt8)) (w : List Nat) (k : Nat), (updA w k t).length = w.length
  | [], w, k => rfl
  | s :: t, w, k => by unfold updA; rw [updA_len t]; simp

theorem TabV.push {H : AH} {v : AV} {rows : List (List (List UInt8))} (h : TabV H.next H v rows) (ty : TypeId) (wh : Bool) (cs : List AV) : TabV H.next (H.push ty wh cs) v rows := h.old (Nat.le_refl _) fun i hi => get_push_old _ _ _ _ hi
theorem StrsV.push {H : AH} {v : AV} {r : List (List UInt8)} (h : StrsV H.next H v r) (ty : TypeId) (wh : Bool) (cs : List AV) : StrsV H.next (H.push ty wh cs) v r := h.old (Nat.le_refl _) fun i hi => get_push_old _ _ _ _ hi

theorem Tryz.widthsIn (H : AH) (hfl : H.floor ≤ H.next) (v : AV) (rows : List (List (List UInt8))) (i : Nat) (u : AV) (r : List (List UInt8)) (hu : StrsV H.next H u r) (hs : ∀ s ∈ r, s.length ≤ 4000000) (hrl : r.length ≤ 4611686018427387904) (K : AX → St → Prop) (ks : List Fr) (L : ACode) (hL : L = .loop (some [4, 17, 18, 19, 33, 34, 35]) Tryz.fn13_l0) :
    ∀ (m k : Nat) (w : List Nat), m + k = r.length → w.length = r.length → ((r.drop k).all cellB = true → ∀ a b, Nx Tryz.call K ks [(36, .bool false), (4, .sl H.next 0 1 r.length (some r.length)), (17, v), (18, .int .i64 rows.length), (19, .int .i64 i), (33, u), (34, .int .i64 r.length), (35, a), (36, b)] (H.push 3 false (intsC (updA w k (r.drop k))))) →
      ((r.drop k).all cellB = false → ∀ e H', GrowN H H' → e.at 2 = .nils → e.at 3 = .bool false → Rt Tryz.call K ks e H') →
      W Tryz.call K (.block 2 :: ks) [(4, .sl H.next 0 1 r.length (some r.length)), (17, v), (18, .int .i64 rows.length), (19, .int .i64 i), (33, u), (34, .int .i64 r.length), (35, .int .i64 k)] (H.push 3 false (intsC w)) L := by
  intro m
  induction m with
  | zero =>
    intro k w hk hw hd hf
    refine W_loopN hL ?_
    have hk' : k = r.length := by omega
    subst hk'
    rw [List.drop_length] at hd
    simp only [Tryz.fn13_l0, Tryz.fn13_r10, AmR, kp, pushA, exe, Arg.val, Env.at, lk, putd, okM, abin, Option.getD_some, if_true, if_false, Nat.reduceEqDiff]
    exact ⟨fun h => absurd h (by omega), fun _ => hd rfl _ _⟩
  | succ m ih =>
    intro k w hk hw hd hf
    refine W_loopN hL ?_
    have hkl : k < r.length := by omega
    have hsk : r[k]? = some r[k] := List.getElem?_eq_getElem hkl
    obtain ⟨q2, o2, c2, b2, u1, u2, u3⟩ := (hu.push 3 false (intsC w)).cell hsk
    have hdk := drop_cons' hsk
    have hsm := hs _ (List.mem_of_getElem? hsk)
    rw [hdk, List.all_cons] at hd hf
    generalize r[k] = s at *
    have hk0 : (0 : Int) ≤ (k : Int) := by omega
    have hk1 : ((k : Int) < (r.length : Int)) = True := eq_true (by omega)
    have hwr := succ_wrap (i := k) (by omega)
    have hcl := Tryz.cell s hsm
    subst u1
    simp only [Tryz.fn13_l0, Tryz.fn13_r10, hk1, AmR, kp, pushA, exe, Arg.val, Env.at, lk, putd, okM, abin, Option.getD_some, if_true, if_false, Nat.reduceEqDiff, decide_true]
    simp only [Tryz.fn13_r11, hk0, hk1, u2, u3, Int.toNat_natCast, and_self, AmR, kp, exe, Arg.val, Env.at, lk, putd, ok1, okM, Option.getD_some, if_true, if_false, Nat.reduceEqDiff]
    simp only [Tryz.fn13_r12, hcl, AmR, kp, exe, Arg.val, Env.at, lk, putd, ok1, okM, Option.getD_some, if_true, if_false, Nat.reduceEqDiff, aun, List.map_cons, List.map_nil]
    cases hcb : cellB s with
    | false =>
      simp only [Tryz.fn13_r13, AmR, kp, pushA, exe, Arg.val, Env.at, lk, putd, ok1, Option.getD_some, if_true, if_false, Bool.not_false, Nat.reduceEqDiff]
      exact hf (by rw [hcb]; rfl) _ _ (GrowN.push _ _ _ _) rfl rfl
    | true =>
      have gn := get_push_new H 3 false (intsC w)
      have hwk : w[k]? = some w[k] := List.getElem?_eq_getElem (by omega)
      have hck : (intsC w)[0 + k * 1]? = some (.int .i64 (w[k] : Int)) := by simp [intsC, hwk]
      have hmx : (if (s.length : Int) > (w[k] : Int) then (s.length : Int) else (w[k] : Int)) = ((max (w.getD k 0) s.length : Nat) : Int) := by
        rw [List.getD_eq_getElem?_getD, hwk, Option.getD_some]
        split <;> omega
      have hst : (H.push 3 false (intsC w)).store H.next (0 + k * 1) [.int .i64 ((max (w.getD k 0) s.length : Nat) : Int)] = some (H.push 3 false (intsC (w.set k (max (w.getD k 0) s.length)))) := by
        rw [store_new H 3 false _ _ _ hfl (by simp [intsC]; omega) rfl]
        simp [putAt, intsC, List.map_set]
      simp only [Tryz.fn13_r14, hk0, hk1, gn, hck, hmx, Int.toNat_natCast, and_self, AmR, kp, pushA, exe, Arg.val, Env.at, lk, putd, ok1, okM, Option.getD_some, if_true, if_false, Bool.not_true, Nat.reduceEqDiff]
      simp only [Tryz.fn13_r15, hst, AmR, kp, exe, Arg.val, Env.at, lk, putd, AV.cells?, Option.getD_some, if_true, if_false, Nat.reduceEqDiff, Nat.reduceAdd, List.length_cons, List.length_nil, Option.map_some]
      simp only [Tryz.fn13_r16, hwr, AmR, kp, exe, Arg.val, Env.at, lk, putd, ok1, okM, abin, Option.getD_some, if_true, if_false, Nat.reduceEqDiff]
      refine ih (k + 1) _ (by omega) (by rw [List.length_set]; exact hw) (fun h a b => ?_) (fun h => hf (by rw [hcb, h]; rfl))
      have := hd (by rw [hcb, h]; rfl) a b
      unfold updA at this
      exact this

theorem Tryz.widthsOut (H : AH) (hfl : H.floor ≤ H.next) (v : AV) (rows : List (List (List UInt8))) (hv : TabV H.next H v rows) (hs : ∀ r ∈ rows, r.length ≤ 4000000 ∧ ∀ s ∈ r, s.length ≤ 4000000) (n : Nat) (hn : n ≤ 4611686018427387904) (hrl : rows.length ≤ 4611686018427387904) (K : AX → St → Prop) (ks : List Fr) (L : ACode) (hL : L = .loop (some [4, 17, 18, 19]) Tryz.fn13_l1) :
    ∀ (m i : Nat) (w : List Nat), m + i = rows.length → w.length = n → ((rows.drop i).all (rowB n) = true → ∀ a b, Nx Tryz.call K ks [(20, .bool false), (4, .sl H.next 0 1 n (some n)), (17, v), (18, .int .i64 rows.length), (19, a), (20, b)] (H.push 3 false (intsC ((rows.drop i).foldl (fun w r => List.zipWith max w (r.map List.length)) w)))) →
      ((rows.drop i).all (rowB n) = false → ∀ e H', GrowN H H' → e.at 2 = .nils → e.at 3 = .bool false → Rt Tryz.call K ks e H') →
      W Tryz.call K (.block 0 :: ks) [(4, .sl H.next 0 1 n (some n)), (17, v), (18, .int .i64 rows.length), (19, .int .i64 i)] (H.push 3 false (intsC w)) L := by
  intro m
  induction m with
  | zero =>
    intro i w hi hw hd hf
    refine W_loopN hL ?_
    have hi' : i = rows.length := by omega
    subst hi'
    rw [List.drop_length] at hd
    simp only [Tryz.fn13_l1, Tryz.fn13_r5, AmR, kp, pushA, exe, Arg.val, Env.at, lk, putd, okM, abin, Option.getD_some, if_true, if_false, Nat.reduceEqDiff]
    exact ⟨fun h => absurd h (by omega), fun _ => hd rfl _ _⟩
  | succ m ih =>
    intro i w hi hw hd hf
    refine W_loopN hL ?_
    have hil : i < rows.length := by omega
    have hr : rows[i]? = some rows[i] := List.getElem?_eq_getElem hil
    have hdi := drop_cons' hr
    have hsr := hs _ (List.mem_of_getElem? hr)
    rw [hdi, List.all_cons] at hd hf
    rw [List.foldl_cons] at hd
    generalize rows[i] = r at *
    obtain ⟨q, o, c, b, u, e1, e2, e3, hu⟩ := (hv.push 3 false (intsC w)).row hr
    have hu0 : StrsV H.next H u r := by
      obtain ⟨q', o', c', b', u', f1, f2, f3, f4⟩ := hv.row hr
      rw [e1] at f1
      simp only [AV.sl.injEq, true_and] at f1
      obtain ⟨rfl, rfl, rfl⟩ := f1
      have hq : q < H.next := hv.1 _ _ _ _ _ e1
      rw [get_push_old _ _ _ _ hq, f2, Option.some.injEq] at e2
      subst e2
      rw [e3, Option.some.injEq] at f3
      subst f3
      exact f4
    have hul := hu0.lenS
    have hi0 : (0 : Int) ≤ (i : Int) := by omega
    have hi1 : ((i : Int) < (rows.length : Int)) = True := eq_true (by omega)
    have hwi := succ_wrap (i := i) (by omega)
    have hin := Tryz.widthsIn H hfl v rows i u r hu0 hsr.2
    have hrl1 := hsr.1
    subst e1
    simp only [Tryz.fn13_l1, Tryz.fn13_r5, hi1, AmR, kp, pushA, exe, Arg.val, Env.at, lk, putd, okM, abin, Option.getD_some, if_true, if_false, Nat.reduceEqDiff, decide_true]
    simp only [Tryz.fn13_r6, hi0, hi1, e2, e3, Int.toNat_natCast, and_self, AmR, kp, exe, Arg.val, Env.at, lk, putd, ok1, okM, Option.getD_some, if_true, if_false, Nat.reduceEqDiff]
    by_cases h0 : r.length = 0
    · have c0 : ((r.length : Int) == 0) = true := by simp [h0]
      have hrb : rowB n r = false := by
        have : r = [] := List.length_eq_zero_iff.1 h0
        subst this; rfl
      simp only [Tryz.fn13_r7, hul, c0, AmR, kp, pushA, exe, Arg.val, Env.at, lk, putd, ok1, okM, abin, Option.getD_some, if_true, if_false, Nat.reduceEqDiff, Option.map_some, ↓exe_lenl]
      simp only [Tryz.fn13_r8, AmR, kp, exe, Arg.val, Env.at, lk, putd, ok1, Option.getD_some, if_true, if_false, Nat.reduceEqDiff]
      exact hf (by rw [hrb]; rfl) _ _ (GrowN.push _ _ _ _) rfl rfl
    · have c0 : ((r.length : Int) == 0) = false := beq_eq_false_iff_ne.2 (by omega)
      have hne : (r != []) = true := by cases r with | nil => simp at h0 | cons => rfl
      by_cases h1 : r.length = n
      · subst h1
        have c1 : ((r.length : Int) != (r.length : Int)) = false := by simp
        have hrb : rowB r.length r = r.all cellB := by simp only [rowB, hne, beq_self_eq_true, Bool.true_and]
        rw [hrb] at hd hf
        simp only [Tryz.fn13_r7, hul, c0, c1, AmR, kp, pushA, exe, Arg.val, Env.at, lk, putd, ok1, okM, abin, Option.getD_some, if_true, if_false, Nat.reduceEqDiff, Bool.false_eq_true, Option.map_some, ↓exe_lenl, lenS_sl]
        simp only [Tryz.fn13_r9, hul, AmR, kp, exe, Arg.val, Env.at, lk, putd, ok1, okM, Option.getD_some, if_true, if_false, Nat.reduceEqDiff, Option.map_some, ↓exe_lenl]
        refine hin (by omega) K _ _ rfl r.length 0 w (by omega) hw (fun h a b' => ?_) fun h e H' hg h2 h3 => ?_
        · rw [List.drop_zero] at h
          rw [List.drop_zero, updA_zero hw]
          simp only [Tryz.fn13_r17, hwi, AmR, kp, exe, Arg.val, Env.at, lk, putd, ok1, okM, abin, Option.getD_some, if_true, if_false, Nat.reduceEqDiff]
          exact ih (i + 1) _ (by omega) (by simp [hw]) (fun h' => hd (by rw [h, h']; rfl)) fun h' => hf (by rw [h, h']; rfl)
        · rw [List.drop_zero] at h
          simp only [Rt_block, Rt_code]
          exact hf (by rw [h]; rfl) e H' hg h2 h3
      · have c1 : ((r.length : Int) != (n : Int)) = true := by simp; omega
        have hrb : rowB n r = false := by simp only [rowB, beq_eq_false_iff_ne.2 h1, Bool.and_false, Bool.false_and]
        simp only [Tryz.fn13_r7, hul, c0, c1, AmR, kp, pushA, exe, Arg.val, Env.at, lk, putd, ok1, okM, abin, Option.getD_some, if_true, if_false, Nat.reduceEqDiff, Bool.false_eq_true, Option.map_some, ↓exe_lenl, lenS_sl]
        simp only [Tryz.fn13_r8, AmR, kp, exe, Arg.val, Env.at, lk, putd, ok1, Option.getD_some, if_true, if_false, Nat.reduceEqDiff]
        exact hf (by rw [hrb]; rfl) _ _ (GrowN.push _ _ _ _) rfl rfl

/-- What widths hands back. -/
def WidthsR (H : AH) (rows : List (List (List UInt8))) (vs : List AV) (H' : AH) : Prop :=
  (tabB rows = false ∧ vs = [.nils, .bool false] ∧ GrowN H H') ∨ (tabB rows = true ∧ rows = [] ∧ vs = [.nils, .bool true] ∧ H' = H) ∨
  (tabB rows = true ∧ rows ≠ [] ∧ vs = [.sl H.next 0 1 (rows.headD []).length (some (rows.headD []).length), .bool true] ∧ H' = H.push 3 false (intsC (wid (rows.headD []).length rows)))

theorem Tryz.widths (H : AH) (hfl : H.floor ≤ H.next) (v : AV) (rows : List (List (List UInt8))) (hv : TabV H.next H v rows) (hs : ∀ r ∈ rows, r.length ≤ 4000000 ∧ ∀ s ∈ r, s.length ≤ 4000000) (hrl : rows.length ≤ 4000000) : ∃ vs H', WidthsR H rows vs H' ∧ Tryz.call 13 [v] H = some (.ok (pack vs), H') := by
  have hvl := hv.lenS
  refine ecall_E 8 [] _ _ rfl rfl rfl ?_
  show W Tryz.call _ _ _ _ _
  cases hrows : rows with
  | nil =>
    rw [hrows] at hvl
    have c0 : ((([] : List (List (List UInt8))).length : Int) == 0) = true := rfl
    simp only [Tryz.fn13, Tryz.fn13_r0, Tryz.fn13_r1, Tryz.fn13_r2, hvl, c0, endK_ret, AmR, kp, pushA, exe, number, Arg.val, Env.at, lk, putd, ok1, okM, abin, Option.getD_some, if_true, if_false, reduceCtorEq, Nat.reduceEqDiff, resAll, resOf, Option.some.injEq, Option.map_some, exists_eq_left', ↓exe_lenl]
    exact .inr (.inl ⟨rfl, rfl, rfl, rfl⟩)
  | cons r0 rest =>
    rw [← hrows]
    have hhd : rows.headD [] = r0 := by rw [hrows]; rfl
    have hne : rows ≠ [] := by rw [hrows]; simp
    have hlen : 0 < rows.length := by rw [hrows]; simp
    have hr0 : rows[0]? = some r0 := by rw [hrows]; rfl
    have hl0 := (hs r0 (List.mem_of_getElem? hr0)).1
    obtain ⟨q, o, c, b, u, e1, e2, e3, hu⟩ := hv.row hr0
    have hul := hu.lenS
    have c0 : ((rows.length : Int) == 0) = false := beq_eq_false_iff_ne.2 (by omega)
    have h00 : (0 : Int) ≤ 0 := Int.le_refl 0
    have h01 : ((0 : Int) < (rows.length : Int)) = True := eq_true (by omega)
    have hm : (0 : Int) ≤ (r0.length : Int) ∧ (r0.length : Int) ≤ (r0.length : Int) ∧ (r0.length : Int).toNat * 8 ≤ 140737488351232 ∧ (r0.length : Int) ≤ 140737488351232 ∧ ([AV.int .i64 0] : List AV).length = 1 := ⟨by omega, Int.le_refl _, by omega, by omega, rfl⟩
    have hm1 : (r0.length * 8 ≤ 140737488351232) = True := eq_true (by omega)
    have hm2 : ((r0.length : Int) ≤ 140737488351232) = True := eq_true (by omega)
    have hrp : rep r0.length [AV.int .i64 0] = intsC (List.replicate r0.length 0) := by simp [rep, intsC, List.flatten_replicate_singleton]
    have hout := Tryz.widthsOut H hfl v rows hv hs r0.length (by omega) (by omega)
    have he3 : b.cells[o + 0 * 1]? = some u := e3
    have hsl := e1
    rw [hsl] at hvl hout ⊢
    simp only [Tryz.fn13, Tryz.fn13_r0, Tryz.fn13_r1, hvl, c0, AmR, kp, pushA, exe, number, Arg.val, Env.at, lk, putd, ok1, okM, abin, Option.getD_some, if_true, if_false, reduceCtorEq, Nat.reduceEqDiff, Option.map_some, ↓exe_lenl]
    simp only [Tryz.fn13_r3, h00, h01, Int.toNat_zero, e2, he3, hul, hm, hm1, hrp, Int.toNat_natCast, and_self, AmR, kp, exe, Arg.val, Env.at, lk, putd, ok1, okM, Option.getD_some, if_true, if_false, reduceCtorEq, Nat.reduceEqDiff, Nat.reduceMul, Option.map_some, ↓exe_lenl]
    simp only [Tryz.fn13_r4, hvl, AmR, kp, exe, Arg.val, Env.at, lk, putd, ok1, okM, Option.getD_some, if_true, if_false, reduceCtorEq, Nat.reduceEqDiff, Option.map_some, ↓exe_lenl]
    refine hout _ _ _ rfl rows.length 0 (List.replicate r0.length 0) (by omega) (by simp) (fun h a b' => ?_) fun h e H' hg h2 h3 => ?_
    · rw [List.drop_zero] at h
      rw [List.drop_zero]
      simp only [Tryz.fn13_r18, endK_ret, AmR, kp, exe, Arg.val, Env.at, lk, putd, ok1, Option.getD_some, if_true, if_false, Nat.reduceEqDiff, resAll, resOf, Option.some.injEq, exists_eq_left']
      exact .inr (.inr ⟨by unfold tabB; rw [hhd]; exact h, hne, by rw [hhd], by rw [hhd]; rfl⟩)
    · rw [List.drop_zero] at h
      simp only [Rt_code, Rt_nil, endK_ret, resAll, resOf, h2, h3, Option.some.injEq, exists_eq_left']
      exact .inl ⟨by unfold tabB; rw [hhd]; exact h, rfl, hg⟩

end Go.Am

/- A table's cell in its column; a table's size. Conditions: those that each theorem names. -/
namespace Go.Am

theorem repeat_one (c : UInt8) : ∀ n, Lib.repeatL [c] n = List.replicate n c
  | 0 => rfl
  | n + 1 => by simp [Lib.repeatL, repeat_one c n, List.replicate_succ]

theorem Tryz.blanks (n : Nat) (h : n ≤ 140737488355326) (H : AH) : Tryz.call 28 [.str [32], .int .i64 ((n + 2 : Nat) : Int)] H = some (.ok (.str (List.replicate (n + 2) 32)), H) := by
  refine ecall_ext 8 [] _ _ (g := gRepeat) rfl _ H ?_
  show (if 2 ≤ ((n + 2 : Nat) : Int) ∧ ((n + 2 : Nat) : Int) ≤ 9223372036854775807 ∧ [(32 : UInt8)].length * (((n + 2 : Nat) : Int)).toNat ≤ 140737488355328 ∧ 0 < [(32 : UInt8)].length then ok1 H (.str (Lib.repeatL [32] (((n + 2 : Nat) : Int)).toNat)) else none) = _
  have h1 : 2 ≤ ((n + 2 : Nat) : Int) ∧ ((n + 2 : Nat) : Int) ≤ 9223372036854775807 ∧ [(32 : UInt8)].length * (((n + 2 : Nat) : Int)).toNat ≤ 140737488355328 ∧ 0 < [(32 : UInt8)].length := ⟨by omega, by omega, by simp; omega, by simp⟩
  rw [if_pos h1, Int.toNat_natCast, repeat_one]
  rfl

/-- A cell with what follows it in its row. -/
def padS (s : List UInt8) (w : Nat) (last : Bool) : List UInt8 := if last then s else s ++ List.replicate (w - s.length + 2) 32

theorem Tryz.columnEnd (m : Nat) (H : AH) (p : Nat) (b t : List UInt8) (w : Nat) (last : Bool) (i1 i2 i3 i4 : Nat) (h : SB m H p b) (hmn : m ≤ H.next) (hw : t.length ≤ w) (hl : b.length + w ≤ 70368744177000)
    (g1 : H.get i1 = some ⟨[.bool last], false, 4, true, true⟩) (g2 : H.get i2 = some ⟨[.ptr p 0], false, 47, true, true⟩) (g3 : H.get i3 = some ⟨[.int .i64 w], false, 3, true, true⟩) (g4 : H.get i4 = some ⟨[.str t], false, 9, true, true⟩) :
    ∃ H', Tryz.call 27 [.ptr i1 0, .ptr i2 0, .ptr i3 0, .ptr i4 0] H = some (.ok (.tup []), H') ∧ SB m H' p (b ++ (if last then [] else List.replicate (w - t.length + 2) 32)) ∧ Kept m H H' := by
  cases last with
  | true =>
    refine ⟨H, ?_, by simpa using h, Kept.refl _ _⟩
    refine ecall_W 8 [] _ _ (out := []) rfl rfl rfl ?_
    show W Tryz.call _ _ _ _ _
    simp only [Tryz.fn27, Tryz.fn27_r0, g1, exactK_nrm, AmR, kp, pushA, exe, number, Arg.val, Env.at, lk, putd, okM, Option.getD_some, if_true, if_false, List.getElem?_cons_zero, Bool.not_true, reduceCtorEq, Nat.reduceEqDiff, Nat.reduceAdd, resAll, and_true, aun]
  | false =>
    have hw1 : IntKind.i64.wrap ((w : Int) - (t.length : Int)) = ((w - t.length : Nat) : Int) := by rw [IntWalk.i64_in _ (by omega)]; omega
    have hw2 : IntKind.i64.wrap (((w - t.length : Nat) : Int) + 2) = ((w - t.length + 2 : Nat) : Int) := by rw [IntWalk.i64_in _ (by omega)]; omega
    have hbl := Tryz.blanks (w - t.length) (by omega)
    obtain ⟨H', a1, a2, a3⟩ := h.writeK hmn (List.replicate (w - t.length + 2) 32) (by simp [List.replicate_succ]) (by simp; omega)
    have hnew := h.1.new
    refine ⟨H', ?_, by simpa using a2, a3⟩
    refine ecall_W 8 [] _ _ (out := []) rfl rfl rfl ?_
    show W Tryz.call _ _ _ _ _
    simp only [Tryz.fn27, Tryz.fn27_r0, g1, AmR, kp, pushA, exe, number, Arg.val, Env.at, lk, putd, okM, Option.getD_some, if_true, if_false, List.getElem?_cons_zero, Bool.not_false, reduceCtorEq, Nat.reduceEqDiff, Nat.reduceAdd, aun]
    refine W_drawn' (by kernel_rfl) ?_
    have gb1 : ∀ nx fl, (AH.mk H.blks nx fl).get i2 = some ⟨[.ptr p 0], false, 47, true, true⟩ := fun _ _ => g2
    have gb2 : ∀ nx fl, (AH.mk H.blks nx fl).get i3 = some ⟨[.int .i64 w], false, 3, true, true⟩ := fun _ _ => g3
    have gb3 : ∀ nx fl, (AH.mk H.blks nx fl).get i4 = some ⟨[.str t], false, 9, true, true⟩ := fun _ _ => g4
    simp only [Tryz.fn27_r1, gb1, gb2, gb3, hw1, hw2, hbl, hnew, a1, exactK_nrm, AmR, kp, exe, Arg.val, Env.at, lk, putd, ok1, okM, abin, Option.getD_some, if_true, if_false, List.getElem?_cons_zero, Nat.reduceEqDiff, Nat.reduceAdd, resAll, and_true, List.nil_append, visH, List.filter_nil, List.flatMap_nil, List.contains_cons, List.contains_nil, Bool.or_false, List.map_cons, List.map_nil]

theorem Tryz.column (m : Nat) (H : AH) (p : Nat) (b t : List UInt8) (w : Nat) (last : Bool) (h : SB m H p b) (hmn : m ≤ H.next) (ht : t ≠ []) (hw : t.length ≤ w) (hl : b.length + w + w ≤ 70368744177000) :
    ∃ H', Tryz.call 15 [.ptr p 0, .str t, .int .i64 w, .bool last] H = some (.ok (.tup []), H') ∧ SB m H' p (b ++ padS t w last) ∧ Kept m H H' := by
  have hp : p < H.next := h.2.2.2.1
  have s1 := (((h.push 47 true [.ptr p 0]).push 9 true [.str t]).push 3 true [.int .i64 w]).push 4 true [.bool last]
  generalize hG : (((H.push 47 true [.ptr p 0]).push 9 true [.str t]).push 3 true [.int .i64 w]).push 4 true [.bool last] = G at s1
  have gn : G.next = H.next + 4 := by rw [← hG]; rfl
  have gf : G.floor = H.floor := by rw [← hG]; rfl
  have k0 : Kept m H G := by
    rw [← hG]
    exact (((Kept.push m H hmn _ _ _).trans (Kept.push m _ (by show m ≤ H.next + 1; omega) _ _ _)).trans (Kept.push m _ (by show m ≤ H.next + 1 + 1; omega) _ _ _)).trans (Kept.push m _ (by show m ≤ H.next + 1 + 1 + 1; omega) _ _ _)
  have g2 : G.get H.next = some ⟨[.ptr p 0], false, 47, true, true⟩ := by
    rw [← hG, get_push_old _ _ _ _ (by show H.next < H.next + 1 + 1 + 1; omega), get_push_old _ _ _ _ (by show H.next < H.next + 1 + 1; omega), get_push_old _ _ _ _ (by show H.next < H.next + 1; omega)]; exact get_push_new _ _ _ _
  have g4 : G.get (H.next + 1) = some ⟨[.str t], false, 9, true, true⟩ := by
    rw [← hG, get_push_old _ _ _ _ (by show H.next + 1 < H.next + 1 + 1 + 1; omega), get_push_old _ _ _ _ (by show H.next + 1 < H.next + 1 + 1; omega)]; exact get_push_new (H.push 47 true [.ptr p 0]) _ _ _
  have g3 : G.get (H.next + 1 + 1) = some ⟨[.int .i64 w], false, 3, true, true⟩ := by
    rw [← hG, get_push_old _ _ _ _ (by show H.next + 1 + 1 < H.next + 1 + 1 + 1; omega)]; exact get_push_new ((H.push 47 true [.ptr p 0]).push 9 true [.str t]) _ _ _
  have g1 : G.get (H.next + 1 + 1 + 1) = some ⟨[.bool last], false, 4, true, true⟩ := by
    rw [← hG]; exact get_push_new (((H.push 47 true [.ptr p 0]).push 9 true [.str t]).push 3 true [.int .i64 w]) _ _ _
  have n1 : (H.push 47 true [.ptr p 0]).next = H.next + 1 := rfl
  have n2 : ((H.push 47 true [.ptr p 0]).push 9 true [.str t]).next = H.next + 1 + 1 := rfl
  have n3 : (((H.push 47 true [.ptr p 0]).push 9 true [.str t]).push 3 true [.int .i64 w]).next = H.next + 1 + 1 + 1 := rfl
  obtain ⟨H1, b1, b2, b3, b4, b5, b6⟩ := s1.writeW (by omega) t ht (by omega)
  have w2 := b6 _ _ (by omega) (by omega) g2 rfl
  have w3 := b6 _ _ (by omega) (by omega) g3 rfl
  have w4 := b6 _ _ (by omega) (by omega) g4 rfl
  have w1 := b6 _ _ (by omega) (by omega) g1 rfl
  obtain ⟨H2, c1, c2, c3⟩ := Tryz.columnEnd m H1 p (b ++ t) t w last (H.next + 1 + 1 + 1) H.next (H.next + 1 + 1) (H.next + 1) b2 (by omega) hw (by rw [List.length_append]; omega) w1 w2 w3 w4
  obtain ⟨vs, H', hR, hc⟩ := ecall_dW 8 [] (lk Tryz.ext) (lk Tryz.tab) (f := 15) (fn := Tryz.fn15) (args := [.ptr p 0, .str t, .int .i64 w, .bool last]) (H := H) (R := fun vs H' => vs = [] ∧ H' = H2) rfl rfl rfl rfl (by
    show W Tryz.call _ _ _ _ _
    simp only [Tryz.fn15_r1, Tryz.fn15_r2, hG, n1, n2, n3, deferK_nrm, AmR, exe, number, Arg.val, Env.at, lk, putd, AV.cells?, ok1, Option.getD_some, if_true, if_false, reduceCtorEq, Nat.reduceEqDiff, Nat.reduceAdd, List.map_cons, List.map_nil]
    refine ⟨_, _, rfl, rfl, ?_⟩
    show W Tryz.call _ _ _ _ _
    simp only [Tryz.fn15, Tryz.fn15_r0, g2, g4, b1, closeK_nrm, AmR, exe, Arg.val, Env.at, lk, putd, okM, Option.getD_some, if_true, if_false, List.getElem?_cons_zero, reduceCtorEq, Nat.reduceEqDiff, resAll, Option.some.injEq, true_and, List.map_cons, List.map_nil, exists_eq_left']
    exact ⟨_, _, c1, rfl⟩)
  obtain ⟨rfl, rfl⟩ := hR
  refine ⟨H', hc, ?_, k0.trans (Kept.trans ⟨b3, b4, b5⟩ c3)⟩
  unfold padS
  cases last
  · simpa using c2
  · simpa using c2

end Go.Am

/- A table's size. Conditions: those that each theorem names. -/
namespace Go.Am

/-- The widths as a slice. -/
def WidV (H : AH) (wv : AV) (w : List Nat) : Prop := SliceV H 1 wv w.length (intsC w)
theorem WidV.at {H : AH} {wv : AV} {w : List Nat} (h : WidV H wv w) {k : Nat} {x : Nat} (hx : w[k]? = some x) : ∃ q o c b, wv = .sl q o 1 w.length c ∧ H.get q = some b ∧ b.cells[o + k * 1]? = some (.int .i64 x) := by
  have hk : k < w.length := by
    by_cases hlt : k < w.length
    · exact hlt
    · rw [List.getElem?_eq_none (by omega)] at hx; cases hx
  exact SliceV.at h hk (by simp [intsC, hx])

def tabLen (w : List Nat) (rows : List (List (List UInt8))) : Nat := (rows.map (lenR w)).sum

theorem Tryz.sizeIn (n : Nat) (H : AH) (v wv : AV) (w : List Nat) (hw : WidV H wv w) (hwb : ∀ x ∈ w, x ≤ 4000000) (L0 i : Nat) (u : AV) (r : List (List UInt8)) (hu : StrsV n H u r) (hs : ∀ s ∈ r, s.length ≤ 4000000) (hrl : r.length ≤ 4000000) (hwr : w.length = r.length) (tot rest : Nat) (K : AX → St → Prop) (ks : List Fr) (L : ACode) (hL : L = .loop (some [1, 5, 7, 10, 11, 12, 16, 17, 18]) Tryz.fn14_l0) :
    ∀ (m k acc : Nat), m + k = r.length → acc ≤ 1048576 → acc + lenR (w.drop k) (r.drop k) + rest = tot →
      (∀ acc' a b, acc' + rest = tot → acc' ≤ 1048576 → Nx Tryz.call K ks [(19, .bool false), (1, wv), (5, .int .i64 (acc' : Nat)), (7, u), (10, v), (11, .int .i64 L0), (12, .int .i64 i), (16, u), (17, .int .i64 r.length), (18, a), (19, b)] H) →
      (∀ e (x : Nat), x ≤ tot → 1048576 < x → e.at 4 = .int .i64 x → Rt Tryz.call K ks e H) →
      W Tryz.call K (.block 2 :: ks) [(1, wv), (5, .int .i64 acc), (7, u), (10, v), (11, .int .i64 L0), (12, .int .i64 i), (16, u), (17, .int .i64 r.length), (18, .int .i64 k)] H L := by
  intro m
  induction m with
  | zero =>
    intro k acc hk ha ht hd hf
    refine W_loopN hL ?_
    have hk' : k = r.length := by omega
    subst hk'
    have : lenR (w.drop r.length) (r.drop r.length) = 0 := by rw [List.drop_length]; cases w.drop r.length <;> rfl
    rw [this] at ht
    simp only [Tryz.fn14_l0, Tryz.fn14_r6, AmR, kp, pushA, exe, Arg.val, Env.at, lk, putd, okM, abin, Option.getD_some, if_true, if_false, Nat.reduceEqDiff]
    exact ⟨fun h => absurd h (by omega), fun _ => hd acc _ _ (by omega) ha⟩
  | succ m ih =>
    intro k acc hk ha ht hd hf
    refine W_loopN hL ?_
    have hkl : k < r.length := by omega
    have hsk : r[k]? = some r[k] := List.getElem?_eq_getElem hkl
    have hwk : w[k]? = some w[k] := List.getElem?_eq_getElem (by omega)
    have hwm := hwb _ (List.mem_of_getElem? hwk)
    obtain ⟨q2, o2, c2, b2, u1, u2, u3⟩ := hu.cell hsk
    obtain ⟨q3, o3, c3, b3, v1, v2, v3⟩ := hw.at hwk
    have hsm := hs _ (List.mem_of_getElem? hsk)
    rw [drop_cons' hsk, drop_cons' hwk] at ht
    unfold lenR at ht
    generalize r[k] = s at *
    generalize w[k] = wk at *
    have hk0 : (0 : Int) ≤ (k : Int) := by omega
    have hk1 : ((k : Int) < (r.length : Int)) = True := eq_true (by omega)
    have hkw : ((k : Int) < (w.length : Int)) = True := eq_true (by omega)
    have hwr' := succ_wrap (i := k) (by omega)
    have hl1 : IntKind.i64.wrap ((r.length : Int) - 1) = ((r.length - 1 : Nat) : Int) := by rw [IntWalk.i64_in _ (by omega)]; omega
    have hul := hu.lenS
    subst u1
    subst v1
    simp only [Tryz.fn14_l0, Tryz.fn14_r6, hk1, AmR, kp, pushA, exe, Arg.val, Env.at, lk, putd, okM, abin, Option.getD_some, if_true, if_false, Nat.reduceEqDiff, decide_true]
    simp only [Tryz.fn14_r7, hk0, hk1, u2, u3, Int.toNat_natCast, and_self, AmR, kp, exe, Arg.val, Env.at, lk, putd, ok1, okM, Option.getD_some, if_true, if_false, Nat.reduceEqDiff]
    have fin : ∀ acc1 : Nat, acc1 + lenR (w.drop (k + 1)) (r.drop (k + 1)) + rest = tot → acc1 ≤ 9000000 →
        W Tryz.call K (.code (.cond (.t 41) (.seq (.seq (.reg Tryz.fn14_r12) (.trim [4])) .ret) .skip) :: .block 3 :: .code (.seq (.reg Tryz.fn14_r13) (.trim [1, 5, 7, 10, 11, 12, 16, 17, 18])) :: .code L :: .block 2 :: ks)
          [(1, .sl q3 o3 1 w.length c3), (5, .int .i64 acc1), (7, .sl q2 o2 1 r.length c2), (10, v), (11, .int .i64 L0), (12, .int .i64 i), (16, .sl q2 o2 1 r.length c2), (17, .int .i64 r.length), (18, .int .i64 k)] H (.seq (.reg Tryz.fn14_r11) (.trim [1, 5, 7, 10, 11, 12, 16, 17, 18, 41])) := by
      intro acc1 h1 h2
      simp only [Tryz.fn14_r11, AmR, kp, pushA, exe, Arg.val, Env.at, lk, putd, ok1, okM, abin, Option.getD_some, if_true, if_false, Nat.reduceEqDiff]
      refine ⟨fun hgt => ?_, fun hle => ?_⟩
      · simp only [Tryz.fn14_r12, AmR, kp, exe, Arg.val, Env.at, lk, putd, ok1, Option.getD_some, if_true, if_false, Nat.reduceEqDiff]
        exact hf _ acc1 (by omega) (by omega) rfl
      · simp only [Tryz.fn14_r13, hwr', AmR, kp, exe, Arg.val, Env.at, lk, putd, ok1, okM, abin, Option.getD_some, if_true, if_false, Nat.reduceEqDiff]
        exact ih (k + 1) acc1 (by omega) (by omega) h1 hd hf
    by_cases hlast : k + 1 = r.length
    · have e1 : ((k : Int) == ((r.length - 1 : Nat) : Int)) = true := by rw [beq_iff_eq]; omega
      have e2 : (r.drop (k + 1)).isEmpty = true := by rw [hlast, List.drop_length]; rfl
      have e3 : lenR (w.drop (k + 1)) (r.drop (k + 1)) = 0 := by rw [hlast, List.drop_length]; cases w.drop r.length <;> rfl
      rw [e2, if_pos rfl] at ht
      have e4 : IntKind.i64.wrap ((s.length : Int) + 1) = ((s.length + 1 : Nat) : Int) := succ_wrap (by omega)
      have e5 : IntKind.i64.wrap ((acc : Int) + ((s.length + 1 : Nat) : Int)) = ((acc + (s.length + 1) : Nat) : Int) := by rw [IntWalk.i64_in _ (by omega)]; omega
      simp only [Tryz.fn14_r8, hul, hl1, e1, AmR, kp, pushA, exe, Arg.val, Env.at, lk, putd, ok1, okM, abin, Option.getD_some, if_true, if_false, Nat.reduceEqDiff, Option.map_some, ↓exe_lenl]
      simp only [Tryz.fn14_r9, e4, e5, AmR, kp, exe, Arg.val, Env.at, lk, putd, ok1, okM, abin, Option.getD_some, if_true, if_false, Nat.reduceEqDiff]
      have := fin (acc + (s.length + 1)) (by rw [e3]; omega) (by omega)
      simpa only [W_seq, W_reg] using this
    · have e1 : ((k : Int) == ((r.length - 1 : Nat) : Int)) = false := beq_eq_false_iff_ne.2 (by omega)
      have e2 : (r.drop (k + 1)).isEmpty = false := by
        cases hd' : r.drop (k + 1) with
        | nil => have := congrArg List.length hd'; simp at this; omega
        | cons => rfl
      rw [e2] at ht
      simp only [Bool.false_eq_true, if_false] at ht
      have e4 : IntKind.i64.wrap ((wk : Int) + 2) = ((wk + 2 : Nat) : Int) := by rw [IntWalk.i64_in _ (by omega)]; omega
      have e5 : IntKind.i64.wrap ((acc : Int) + ((wk + 2 : Nat) : Int)) = ((acc + (wk + 2) : Nat) : Int) := by rw [IntWalk.i64_in _ (by omega)]; omega
      simp only [Tryz.fn14_r8, hul, hl1, e1, AmR, kp, pushA, exe, Arg.val, Env.at, lk, putd, ok1, okM, abin, Option.getD_some, if_true, if_false, Nat.reduceEqDiff, Option.map_some, ↓exe_lenl]
      simp only [Tryz.fn14_r10, hk0, hkw, v2, v3, e4, e5, Int.toNat_natCast, and_self, AmR, kp, exe, Arg.val, Env.at, lk, putd, ok1, okM, abin, Option.getD_some, if_true, if_false, Nat.reduceEqDiff]
      have := fin (acc + (wk + 2)) (by omega) (by omega)
      simpa only [W_seq, W_reg] using this

theorem Tryz.sizeOut (n : Nat) (H : AH) (v wv : AV) (w : List Nat) (hw : WidV H wv w) (hwb : ∀ x ∈ w, x ≤ 4000000) (rows : List (List (List UInt8))) (hv : TabV n H v rows) (hs : ∀ r ∈ rows, r.length ≤ 4000000 ∧ (∀ s ∈ r, s.length ≤ 4000000) ∧ w.length = r.length) (hrl : rows.length ≤ 4000000) (tot : Nat) (K : AX → St → Prop) (ks : List Fr) (L : ACode) (hL : L = .loop (some [1, 5, 10, 11, 12]) Tryz.fn14_l1) :
    ∀ (m i acc : Nat), m + i = rows.length → acc ≤ 1048576 → acc + tabLen w (rows.drop i) = tot →
      (∀ a b, tot ≤ 1048576 → Nx Tryz.call K ks [(13, .bool false), (1, wv), (5, .int .i64 tot), (10, v), (11, .int .i64 rows.length), (12, a), (13, b)] H) →
      (∀ e (x : Nat), x ≤ tot → 1048576 < x → e.at 4 = .int .i64 x → Rt Tryz.call K ks e H) →
      W Tryz.call K (.block 0 :: ks) [(1, wv), (5, .int .i64 acc), (10, v), (11, .int .i64 rows.length), (12, .int .i64 i)] H L := by
  intro m
  induction m with
  | zero =>
    intro i acc hi ha ht hd hf
    refine W_loopN hL ?_
    have hi' : i = rows.length := by omega
    subst hi'
    rw [List.drop_length] at ht
    have ht' : acc = tot := by simpa [tabLen] using ht
    simp only [Tryz.fn14_l1, Tryz.fn14_r3, AmR, kp, pushA, exe, Arg.val, Env.at, lk, putd, okM, abin, Option.getD_some, if_true, if_false, Nat.reduceEqDiff]
    exact ⟨fun h => absurd h (by omega), fun _ => by rw [ht']; exact hd _ _ (by omega)⟩
  | succ m ih =>
    intro i acc hi ha ht hd hf
    refine W_loopN hL ?_
    have hil : i < rows.length := by omega
    have hr : rows[i]? = some rows[i] := List.getElem?_eq_getElem hil
    have hsr := hs _ (List.mem_of_getElem? hr)
    rw [drop_cons' hr] at ht
    generalize rows[i] = r at *
    have ht2 : acc + lenR w r + tabLen w (rows.drop (i + 1)) = tot := by simpa [tabLen, Nat.add_assoc] using ht
    obtain ⟨q, o, c, b, u, e1, e2, e3, hu⟩ := hv.row hr
    have hul := hu.lenS
    have hi0 : (0 : Int) ≤ (i : Int) := by omega
    have hi1 : ((i : Int) < (rows.length : Int)) = True := eq_true (by omega)
    have hwi := succ_wrap (i := i) (by omega)
    have hin := Tryz.sizeIn n H v wv w hw hwb rows.length i u r hu hsr.2.1 hsr.1 hsr.2.2 tot (tabLen w (rows.drop (i + 1)))
    subst e1
    simp only [Tryz.fn14_l1, Tryz.fn14_r3, hi1, AmR, kp, pushA, exe, Arg.val, Env.at, lk, putd, okM, abin, Option.getD_some, if_true, if_false, Nat.reduceEqDiff, decide_true]
    simp only [Tryz.fn14_r4, hi0, hi1, e2, e3, Int.toNat_natCast, and_self, AmR, kp, exe, Arg.val, Env.at, lk, putd, ok1, okM, Option.getD_some, if_true, if_false, Nat.reduceEqDiff]
    simp only [Tryz.fn14_r5, hul, AmR, kp, exe, Arg.val, Env.at, lk, putd, ok1, okM, Option.getD_some, if_true, if_false, Nat.reduceEqDiff, Option.map_some, ↓exe_lenl]
    refine hin K _ _ rfl r.length 0 acc (by omega) ha (by rw [List.drop_zero, List.drop_zero]; exact ht2) (fun acc' a b' h1 h2 => ?_) fun e x h1 h2 h3 => ?_
    · simp only [Tryz.fn14_r14, hwi, AmR, kp, exe, Arg.val, Env.at, lk, putd, ok1, okM, abin, Option.getD_some, if_true, if_false, Nat.reduceEqDiff]
      exact ih (i + 1) acc' (by omega) h2 h1 hd hf
    · simp only [Rt_block, Rt_code]
      exact hf e x h1 h2 h3

theorem Tryz.size (n : Nat) (H : AH) (v wv : AV) (w : List Nat) (hw : WidV H wv w) (hwb : ∀ x ∈ w, x ≤ 4000000) (rows : List (List (List UInt8))) (hv : TabV n H v rows) (hs : ∀ r ∈ rows, r.length ≤ 4000000 ∧ (∀ s ∈ r, s.length ≤ 4000000) ∧ w.length = r.length) (hrl : rows.length ≤ 4000000) :
    ∃ x : Nat, Tryz.call 14 [v, wv] H = some (.ok (.int .i64 x), H) ∧ x ≤ tabLen w rows ∧ (x ≤ 1048576 → tabLen w rows ≤ 1048576) := by
  have hvl := hv.lenS
  obtain ⟨vs, H', ⟨x, rfl, rfl, h1, h2⟩, hc⟩ := ecall_E 8 [] (lk Tryz.ext) (lk Tryz.tab) (f := 14) (fn := Tryz.fn14) (args := [v, wv]) (H := H) (R := fun vs H' => ∃ x : Nat, vs = [.int .i64 x] ∧ H' = H ∧ x ≤ tabLen w rows ∧ (x ≤ 1048576 → tabLen w rows ≤ 1048576)) rfl rfl rfl (by
    show W Tryz.call _ _ _ _ _
    simp only [Tryz.fn14, Tryz.fn14_r0, Tryz.fn14_r1, AmR, kp, exe, number, Arg.val, Env.at, lk, putd, ok1, Option.getD_some, if_true, if_false, reduceCtorEq, Nat.reduceEqDiff, Nat.reduceAdd]
    simp only [Tryz.fn14_r2, hvl, AmR, kp, exe, Arg.val, Env.at, lk, putd, ok1, okM, Option.getD_some, if_true, if_false, reduceCtorEq, Nat.reduceEqDiff, Option.map_some, ↓exe_lenl]
    refine Tryz.sizeOut n H v wv w hw hwb rows hv hs hrl (tabLen w rows) _ _ _ rfl rows.length 0 0 (by omega) (by omega) (by rw [List.drop_zero]; omega) (fun a b h2 => ?_) fun e x h1 h2 h3 => ?_
    · simp only [Tryz.fn14_r15, endK_ret, AmR, kp, exe, Arg.val, Env.at, lk, putd, ok1, Option.getD_some, if_true, if_false, Nat.reduceEqDiff, resAll, resOf, Option.some.injEq, List.cons.injEq, AV.int.injEq, and_true, true_and, exists_eq_left']
      exact ⟨tabLen w rows, rfl, Nat.le_refl _, fun _ => h2⟩
    · simp only [Rt_code, Rt_nil, endK_ret, resAll, resOf, h3, Option.some.injEq, exists_eq_left']
      exact ⟨x, rfl, trivial, h1, fun h => absurd h (by omega)⟩)
  exact ⟨x, hc, h1, h2⟩

end Go.Am

/- Table. Conditions: those that each theorem names. -/
namespace Go.Am

theorem rowTxt_cons (w : Nat) (ws : List Nat) (s : List UInt8) (t : List (List UInt8)) : rowTxt (w :: ws) (s :: t) = padS s w t.isEmpty ++ rowTxt ws t := by
  cases t with
  | nil => simp [rowTxt, padS]
  | cons a t => simp [rowTxt, padS]

theorem Tryz.tableIn (m0 : Nat) (H0 : AH) (n : Nat) (hn : n ≤ m0) (v wv : AV) (w : List Nat) (hw : WidV H0 wv w) (hwn : ∀ i o z m c, wv = .sl i o z m c → i < m0) (hwb : ∀ x ∈ w, x ≤ 4000000) (L0 i p : Nat) (u : AV) (r : List (List UInt8)) (hu : StrsV n H0 u r) (hs : ∀ s ∈ r, s ≠ [] ∧ s.length ≤ 4000000) (hrl : r.length ≤ 4000000) (hfw : fitsW w r) (K : AX → St → Prop) (ks : List Fr) (L : ACode) (hL : L = .loop (some [4, 6, 8, 22, 23, 24, 28, 29, 30]) Tryz.fn7_l0) :
    ∀ (m k : Nat) (b : List UInt8) (H : AH), m + k = r.length → SB m0 H p b → Kept m0 H0 H → m0 ≤ H.next → (b ++ rowTxt (w.drop k) (r.drop k)).length ≤ 1048576 → fitsW (w.drop k) (r.drop k) →
      (∀ H' x y, SB m0 H' p (b ++ rowTxt (w.drop k) (r.drop k)) → Kept m0 H0 H' → m0 ≤ H'.next → Nx Tryz.call K ks [(31, .bool false), (4, wv), (6, .ptr p 0), (8, u), (22, v), (23, .int .i64 L0), (24, .int .i64 i), (28, u), (29, .int .i64 r.length), (30, x), (31, y)] H') →
      W Tryz.call K (.block 2 :: ks) [(4, wv), (6, .ptr p 0), (8, u), (22, v), (23, .int .i64 L0), (24, .int .i64 i), (28, u), (29, .int .i64 r.length), (30, .int .i64 k)] H L := by
  have hwr := fitsW_len hfw
  intro m
  induction m with
  | zero =>
    intro k b H hk hb hK hmn hln hft hd
    refine W_loopN hL ?_
    have hk' : k = r.length := by omega
    subst hk'
    have e0 : rowTxt (w.drop r.length) (r.drop r.length) = [] := by rw [List.drop_length]; cases w.drop r.length <;> rfl
    rw [e0, List.append_nil] at hd
    simp only [Tryz.fn7_l0, Tryz.fn7_r11, AmR, kp, pushA, exe, Arg.val, Env.at, lk, putd, okM, abin, Option.getD_some, if_true, if_false, Nat.reduceEqDiff]
    exact ⟨fun h => absurd h (by omega), fun _ => hd _ _ _ hb hK hmn⟩
  | succ m ih =>
    intro k b H hk hb hK hmn hln hft hd
    refine W_loopN hL ?_
    have hkl : k < r.length := by omega
    have hsk : r[k]? = some r[k] := List.getElem?_eq_getElem hkl
    have hwk : w[k]? = some w[k] := List.getElem?_eq_getElem (by omega)
    have hwm := hwb _ (List.mem_of_getElem? hwk)
    have huH : StrsV n H u r := hu.old (Nat.le_refl _) fun i hi => hK.2.2 i (by omega)
    have hwH : WidV H wv w := hw.old hwn hK.2.2
    obtain ⟨q2, o2, c2, b2, u1, u2, u3⟩ := huH.cell hsk
    obtain ⟨q3, o3, c3, b3, v1, v2, v3⟩ := hwH.at hwk
    obtain ⟨hsne, hsm⟩ := hs _ (List.mem_of_getElem? hsk)
    rw [drop_cons' hsk, drop_cons' hwk] at hft hln hd
    rw [rowTxt_cons, ← List.append_assoc] at hln hd
    have hfs : r[k].length ≤ w[k] := hft.1
    generalize r[k] = s at *
    generalize w[k] = wk at *
    have hk0 : (0 : Int) ≤ (k : Int) := by omega
    have hk1 : ((k : Int) < (r.length : Int)) = True := eq_true (by omega)
    have hkw : ((k : Int) < (w.length : Int)) = True := eq_true (by omega)
    have hwr' := succ_wrap (i := k) (by omega)
    have hl1 : IntKind.i64.wrap ((r.length : Int) - 1) = ((r.length - 1 : Nat) : Int) := by rw [IntWalk.i64_in _ (by omega)]; omega
    have he : ((k : Int) == ((r.length - 1 : Nat) : Int)) = (r.drop (k + 1)).isEmpty := by
      cases hd' : r.drop (k + 1) with
      | nil =>
        have := congrArg List.length hd'
        simp only [List.length_drop, List.length_nil] at this
        show _ = true
        rw [beq_iff_eq]; omega
      | cons x t =>
        have := congrArg List.length hd'
        simp only [List.length_drop, List.length_cons] at this
        show _ = false
        exact beq_eq_false_iff_ne.2 (by omega)
    have hbl : b.length ≤ 1048576 := by rw [List.length_append, List.length_append] at hln; omega
    obtain ⟨H1, a1, a2, a3⟩ := Tryz.column m0 H p b s wk (r.drop (k + 1)).isEmpty hb hmn hsne hfs (by omega)
    have a3n := a3.2.1
    subst u1
    subst v1
    simp only [Tryz.fn7_l0, Tryz.fn7_r11, hk1, AmR, kp, pushA, exe, Arg.val, Env.at, lk, putd, okM, abin, Option.getD_some, if_true, if_false, Nat.reduceEqDiff, decide_true]
    simp only [Tryz.fn7_r12, hk0, hk1, u2, u3, Int.toNat_natCast, and_self, AmR, kp, exe, Arg.val, Env.at, lk, putd, ok1, okM, Option.getD_some, if_true, if_false, Nat.reduceEqDiff]
    simp only [Tryz.fn7_r13, hk0, hkw, v2, v3, hl1, he, lenS_sl, Int.toNat_natCast, and_self, AmR, kp, exe, Arg.val, Env.at, lk, putd, ok1, okM, abin, Option.getD_some, if_true, if_false, Nat.reduceEqDiff, Option.map_some, ↓exe_lenl, lenS_sl]
    simp only [Tryz.fn7_r14, a1, AmR, kp, exe, Arg.val, Env.at, lk, putd, Option.getD_some, if_true, if_false, Nat.reduceEqDiff, List.map_cons, List.map_nil]
    simp only [Tryz.fn7_r15, hwr', AmR, kp, exe, Arg.val, Env.at, lk, putd, ok1, okM, abin, Option.getD_some, if_true, if_false, Nat.reduceEqDiff]
    exact ih (k + 1) _ H1 (by omega) a2 (hK.trans a3) (by omega) hln hft.2 hd

theorem Tryz.tableOut (m0 : Nat) (H0 : AH) (n : Nat) (hn : n ≤ m0) (v wv : AV) (w : List Nat) (hw : WidV H0 wv w) (hwn : ∀ i o z m c, wv = .sl i o z m c → i < m0) (hwb : ∀ x ∈ w, x ≤ 4000000) (p : Nat) (rows : List (List (List UInt8))) (hv : TabV n H0 v rows) (hs : ∀ r ∈ rows, r.length ≤ 4000000 ∧ (∀ s ∈ r, s ≠ [] ∧ s.length ≤ 4000000) ∧ fitsW w r) (hrl : rows.length ≤ 4000000) (K : AX → St → Prop) (ks : List Fr) (L : ACode) (hL : L = .loop (some [4, 6, 22, 23, 24]) Tryz.fn7_l1) :
    ∀ (m i : Nat) (b : List UInt8) (H : AH), m + i = rows.length → SB m0 H p b → Kept m0 H0 H → m0 ≤ H.next → (b ++ tabTxt w (rows.drop i)).length ≤ 1048576 →
      (∀ H' x y, SB m0 H' p (b ++ tabTxt w (rows.drop i)) → Kept m0 H0 H' → Nx Tryz.call K ks [(25, .bool false), (4, wv), (6, .ptr p 0), (22, v), (23, .int .i64 rows.length), (24, x), (25, y)] H') →
      W Tryz.call K (.block 0 :: ks) [(4, wv), (6, .ptr p 0), (22, v), (23, .int .i64 rows.length), (24, .int .i64 i)] H L := by
  intro m
  induction m with
  | zero =>
    intro i b H hi hb hK hmn hln hd
    refine W_loopN hL ?_
    have hi' : i = rows.length := by omega
    subst hi'
    rw [List.drop_length] at hd
    simp only [Tryz.fn7_l1, Tryz.fn7_r8, AmR, kp, pushA, exe, Arg.val, Env.at, lk, putd, okM, abin, Option.getD_some, if_true, if_false, Nat.reduceEqDiff]
    exact ⟨fun h => absurd h (by omega), fun _ => hd _ _ _ (by simpa [tabTxt] using hb) hK⟩
  | succ m ih =>
    intro i b H hi hb hK hmn hln hd
    refine W_loopN hL ?_
    have hil : i < rows.length := by omega
    have hr : rows[i]? = some rows[i] := List.getElem?_eq_getElem hil
    have hsr := hs _ (List.mem_of_getElem? hr)
    rw [drop_cons' hr] at hln hd
    have et : ∀ r, tabTxt w (r :: rows.drop (i + 1)) = rowTxt w r ++ ([10] ++ tabTxt w (rows.drop (i + 1))) := fun r => by simp [tabTxt]
    rw [et, ← List.append_assoc] at hln hd
    obtain ⟨q, o, c, bk, u, e1, e2, e3, hu⟩ := hv.row hr
    generalize rows[i] = r at *
    have hq : q < n := hv.1 _ _ _ _ _ e1
    have e2' : H.get q = some bk := (hK.2.2 q (by omega)).trans e2
    have hul := hu.lenS
    have hi0 : (0 : Int) ≤ (i : Int) := by omega
    have hi1 : ((i : Int) < (rows.length : Int)) = True := eq_true (by omega)
    have hwi := succ_wrap (i := i) (by omega)
    have hin := Tryz.tableIn m0 H0 n hn v wv w hw hwn hwb rows.length i p u r hu hsr.2.1 hsr.1 hsr.2.2
    subst e1
    simp only [Tryz.fn7_l1, Tryz.fn7_r8, hi1, AmR, kp, pushA, exe, Arg.val, Env.at, lk, putd, okM, abin, Option.getD_some, if_true, if_false, Nat.reduceEqDiff, decide_true]
    simp only [Tryz.fn7_r9, hi0, hi1, e2', e3, Int.toNat_natCast, and_self, AmR, kp, exe, Arg.val, Env.at, lk, putd, ok1, okM, Option.getD_some, if_true, if_false, Nat.reduceEqDiff]
    simp only [Tryz.fn7_r10, hul, AmR, kp, exe, Arg.val, Env.at, lk, putd, ok1, okM, Option.getD_some, if_true, if_false, Nat.reduceEqDiff, Option.map_some, ↓exe_lenl]
    have hl2 : (b ++ rowTxt w r).length ≤ 1048576 := by rw [List.length_append] at hln; omega
    refine hin K _ _ rfl r.length 0 b H (by omega) hb hK hmn (by rw [List.drop_zero, List.drop_zero]; exact hl2) (by rw [List.drop_zero, List.drop_zero]; exact hsr.2.2) fun H' x y h1 h2 h3 => ?_
    rw [List.drop_zero, List.drop_zero] at h1
    obtain ⟨H2, a1, a2, a3⟩ := h1.byte h3 10 (by omega)
    have a1' : Tryz.call 16 [.ptr p 0, .int .u8 10] H' = some (.ok .nili, H2) := a1
    simp only [Tryz.fn7_r16, a1', AmR, kp, exe, Arg.val, Env.at, lk, putd, Option.getD_some, if_true, if_false, Nat.reduceEqDiff, List.map_cons, List.map_nil]
    simp only [Tryz.fn7_r17, hwi, AmR, kp, exe, Arg.val, Env.at, lk, putd, ok1, okM, abin, Option.getD_some, if_true, if_false, Nat.reduceEqDiff]
    refine ih (i + 1) _ H2 (by omega) a2 (h2.trans a3) (by have := a3.2.1; omega) (by rw [← List.append_assoc] at hln; exact hln) fun H3 x' y' k1 k2 => hd H3 x' y' (by rw [← List.append_assoc]; exact k1) k2

theorem wid_le {n b : Nat} : ∀ {rows : List (List (List UInt8))} {w : List Nat}, (∀ x ∈ w, x ≤ b) → (∀ r ∈ rows, ∀ s ∈ r, s.length ≤ b) → ∀ x ∈ rows.foldl (fun w r => List.zipWith max w (r.map List.length)) w, x ≤ b
  | [], w, h, _ => h
  | r :: rows, w, h, hr => wid_le (n := n) (rows := rows) (w := List.zipWith max w (r.map List.length)) (fun x hx => by
      rw [List.mem_iff_getElem?] at hx
      obtain ⟨i, hi⟩ := hx
      rw [List.getElem?_zipWith] at hi
      cases h1 : w[i]? with
      | none => simp [h1] at hi
      | some a =>
        cases h2 : (r.map List.length)[i]? with
        | none => simp [h1, h2] at hi
        | some c =>
          simp only [h1, h2, Option.some.injEq] at hi
          have ha := h a (List.mem_of_getElem? h1)
          have hc : c ≤ b := by
            have := List.mem_of_getElem? h2
            rw [List.mem_map] at this
            obtain ⟨s, hs, rfl⟩ := this
            exact hr r (by simp) s hs
          omega) fun q hq => hr q (by simp [hq])

theorem tabLen_eq {w : List Nat} : ∀ {rows : List (List (List UInt8))}, (∀ r ∈ rows, r ≠ [] ∧ fitsW w r) → tabLen w rows = (tabTxt w rows).length
  | [], _ => rfl
  | r :: rows, h => by
    have ih := tabLen_eq (w := w) (rows := rows) fun q hq => h q (by simp [hq])
    have hr := h r (by simp)
    have := lenR_eq hr.1 hr.2
    simp only [tabLen, tabTxt, List.map_cons, List.sum_cons, List.flatMap_cons, List.length_append, List.length_cons, List.length_nil] at ih ⊢
    omega

theorem Tryz.table (H : AH) (hN : Names H) (hfl : H.floor ≤ H.next) (v : AV) (rows : List (List (List UInt8))) (hv : TabV H.next H v rows) (hs : ∀ r ∈ rows, r.length ≤ 4000000 ∧ ∀ s ∈ r, s.length ≤ 4000000) (hrl : rows.length ≤ 4000000) :
    ∃ H', Tryz.call 7 [v] H = some (.ok (.tup [.str (tableS rows), .int .i64 (tableE rows)]), H') ∧ Kept H.next H H' ∧ Names H' := by
  obtain ⟨ws, H1, hR, hwc⟩ := Tryz.widths H hfl v rows hv hs hrl
  by_cases hb : tabB rows = false
  · have hR' : ws = [.nils, .bool false] ∧ GrowN H H1 := by
      rcases hR with ⟨_, h1, h2⟩ | ⟨h0, _⟩ | ⟨h0, _⟩
      · exact ⟨h1, h2⟩
      · rw [hb] at h0; cases h0
      · rw [hb] at h0; cases h0
    obtain ⟨rfl, hg⟩ := hR'
    have hE : tableE rows = 1 := by unfold tableE; rw [if_neg (by rw [hb]; simp)]
    have hS : tableS rows = [] := by unfold tableS; rw [if_neg (by rw [hE]; simp)]
    have hwc' : Tryz.call 13 [v] H = some (.ok (.tup [.nils, .bool false]), H1) := hwc
    refine ⟨H1, ?_, hg.1.kept (Nat.le_refl _), hg.2 hN⟩
    refine ecall_W 8 [] _ _ (out := [.str (tableS rows), .int .i64 (tableE rows)]) rfl rfl rfl ?_
    show W Tryz.call _ _ _ _ _
    rw [hE, hS]
    simp only [Tryz.fn7, Tryz.fn7_r0, Tryz.fn7_r1, hwc', AmR, kp, exe, number, Arg.val, Env.at, lk, putd, ok1, okM, Option.getD_some, if_true, if_false, List.getElem?_cons_zero, List.getElem?_cons_succ, reduceCtorEq, Nat.reduceEqDiff, List.map_cons, List.map_nil]
    simp only [Tryz.fn7_r2, Tryz.fn7_r3, exactK_ret, AmR, kp, pushA, exe, Arg.val, Env.at, lk, putd, ok1, okM, Option.getD_some, if_true, if_false, Bool.not_false, reduceCtorEq, Nat.reduceEqDiff, resAll, resOf, and_true, aun]
  · have hb' : tabB rows = true := by simpa using hb
    have hg := tabB_len hb'
    have hfit := wid_fits (n := (rows.headD []).length) fun r hr => (hg r hr).2.1
    generalize hwd : wid (rows.headD []).length rows = w at *
    have hT : tableT rows = tabTxt w rows := by unfold tableT; rw [hwd]
    have hwb : ∀ x ∈ w, x ≤ 4000000 := by
      rw [← hwd]
      refine wid_le (n := 0) (fun x hx => ?_) fun r hr => (hs r hr).2
      rw [List.mem_replicate] at hx
      omega
    obtain ⟨wv, rfl, hg1, hN1, hwv, hwn⟩ : ∃ wv, ws = [wv, .bool true] ∧ Grow H H1 ∧ Names H1 ∧ WidV H1 wv w ∧ ∀ i o z m c, wv = .sl i o z m c → i < H1.next := by
      rcases hR with ⟨h0, _⟩ | ⟨_, h1, h2, h3⟩ | ⟨_, h1, h2, h3⟩
      · rw [hb'] at h0; cases h0
      · refine ⟨.nils, h2, by rw [h3]; exact Grow.refl _, by rw [h3]; exact hN, ?_, fun _ _ _ _ _ e => by cases e⟩
        rw [h1] at hwd
        have : w = [] := by rw [← hwd]; rfl
        subst this
        exact .nil
      · have hlw : w.length = (rows.headD []).length := by rw [← hwd]; exact wid_len fun r hr => (hg r hr).2.1
        rw [hwd] at h3
        refine ⟨_, h2, by rw [h3]; exact Grow.push _ _ _ _, by rw [h3]; exact hN.push _ _ _, ?_, fun i o z m c e => ?_⟩
        · rw [h3, ← hlw]
          have := SliceV.sl (H := H.push 3 false (intsC w)) (z := 1) (i := H.next) (o := 0) (n := w.length) (c := some w.length) (get_push_new H 3 false (intsC w)) (by simp [intsC])
          rw [List.drop_zero, List.take_of_length_le (by simp [intsC])] at this
          exact this
        · cases e; rw [h3]; exact Nat.lt_succ_self _
    have hwc' : Tryz.call 13 [v] H = some (.ok (.tup [wv, .bool true]), H1) := hwc
    have hv1 : TabV H.next H1 v rows := hv.old (Nat.le_refl _) hg1.2.2
    obtain ⟨x, hsz, hx1, hx2⟩ := Tryz.size H.next H1 v wv w hwv hwb rows hv1 (fun r hr => ⟨(hs r hr).1, (hs r hr).2, fitsW_len (hfit r hr)⟩) hrl
    have hlen := tabLen_eq fun r hr => ⟨(hg r hr).1, hfit r hr⟩
    have hvl := hv.lenS
    have hgn := hg1.2.1
    by_cases hbig : (x : Int) > 1048576
    · have hE : tableE rows = 6 := by unfold tableE; rw [if_pos hb', hT, if_neg (by omega)]
      have hS : tableS rows = [] := by unfold tableS; rw [if_neg (by rw [hE]; simp)]
      refine ⟨H1, ?_, hg1.kept (Nat.le_refl _), hN1⟩
      refine ecall_W 8 [] _ _ (out := [.str (tableS rows), .int .i64 (tableE rows)]) rfl rfl rfl ?_
      show W Tryz.call _ _ _ _ _
      rw [hE, hS]
      have e1 : ((x : Int) > 1048576) = True := eq_true hbig
      simp only [Tryz.fn7, Tryz.fn7_r0, Tryz.fn7_r1, hwc', AmR, kp, exe, number, Arg.val, Env.at, lk, putd, ok1, okM, Option.getD_some, if_true, if_false, List.getElem?_cons_zero, List.getElem?_cons_succ, reduceCtorEq, Nat.reduceEqDiff, List.map_cons, List.map_nil]
      simp only [Tryz.fn7_r2, AmR, kp, pushA, exe, Arg.val, Env.at, lk, putd, ok1, okM, Option.getD_some, if_true, if_false, Bool.not_true, reduceCtorEq, Nat.reduceEqDiff, aun]
      simp only [Tryz.fn7_r4, hsz, e1, AmR, kp, pushA, exe, Arg.val, Env.at, lk, putd, ok1, okM, abin, Option.getD_some, if_true, if_false, reduceCtorEq, Nat.reduceEqDiff, decide_true, List.map_cons, List.map_nil]
      simp only [Tryz.fn7_r5, exactK_ret, AmR, kp, exe, Arg.val, Env.at, lk, putd, ok1, Option.getD_some, if_true, if_false, reduceCtorEq, Nat.reduceEqDiff, resAll, resOf, and_true]
    · have hl1 : (tabTxt w rows).length ≤ 1048576 := by omega
      have hE : tableE rows = 0 := by unfold tableE; rw [if_pos hb', hT, if_pos hl1]
      have hS : tableS rows = tabTxt w rows := by unfold tableS; rw [if_pos hE, hT]
      have e1 : ((x : Int) > 1048576) = False := eq_false hbig
      have sb : SB H1.next (H1.push 50 true [.nilp, .nils]) H1.next [] := ⟨hN1.push _ _ _, by show H1.floor ≤ H1.next; have := hg1.1; omega, Nat.le_refl _, Nat.lt_succ_self _, .inl ⟨rfl, get_push_new _ _ _ _⟩⟩
      have k1 := Kept.push H1.next H1 (Nat.le_refl _) 50 true [.nilp, .nils]
      have hout := Tryz.tableOut H1.next H1 H.next hgn v wv w hwv hwn hwb H1.next rows hv1 (fun r hr => ⟨(hs r hr).1, fun s hs' => ⟨((hg r hr).2.2 s hs').ne, (hs r hr).2 s hs'⟩, hfit r hr⟩) hrl
      obtain ⟨vs, H', ⟨h1, h2, h3⟩, hc⟩ := ecall_E 8 [] (lk Tryz.ext) (lk Tryz.tab) (f := 7) (fn := Tryz.fn7) (args := [v]) (H := H) (R := fun vs H' => vs = [.str (tabTxt w rows), .int .i64 0] ∧ Kept H1.next H1 H' ∧ Names H') rfl rfl rfl (by
        show W Tryz.call _ _ _ _ _
        simp only [Tryz.fn7, Tryz.fn7_r0, Tryz.fn7_r1, hwc', AmR, kp, exe, number, Arg.val, Env.at, lk, putd, ok1, okM, Option.getD_some, if_true, if_false, List.getElem?_cons_zero, List.getElem?_cons_succ, reduceCtorEq, Nat.reduceEqDiff, List.map_cons, List.map_nil]
        simp only [Tryz.fn7_r2, AmR, kp, pushA, exe, Arg.val, Env.at, lk, putd, ok1, okM, Option.getD_some, if_true, if_false, Bool.not_true, reduceCtorEq, Nat.reduceEqDiff, aun]
        simp only [Tryz.fn7_r4, hsz, e1, AmR, kp, pushA, exe, Arg.val, Env.at, lk, putd, ok1, okM, abin, Option.getD_some, if_true, if_false, reduceCtorEq, Nat.reduceEqDiff, decide_false, List.map_cons, List.map_nil]
        simp only [Tryz.fn7_r6, AmR, kp, exe, Env.at, lk, putd, ok1, Option.getD_some, if_true, if_false, reduceCtorEq, Nat.reduceEqDiff]
        simp only [Tryz.fn7_r7, hvl, AmR, kp, exe, Arg.val, Env.at, lk, putd, ok1, okM, Option.getD_some, if_true, if_false, reduceCtorEq, Nat.reduceEqDiff, Option.map_some, ↓exe_lenl]
        refine hout _ _ _ rfl rows.length 0 [] _ (by omega) sb k1 (by show H1.next ≤ H1.next + 1; omega) (by rw [List.drop_zero, List.nil_append]; exact hl1) fun H2 x' y' a1 a2 => ?_
        rw [List.drop_zero, List.nil_append] at a1
        obtain ⟨H3, b1, b2, b3⟩ := a1.stringK (by omega)
        simp only [Tryz.fn7_r18, b1, endK_ret, AmR, kp, exe, Arg.val, Env.at, lk, putd, ok1, Option.getD_some, if_true, if_false, Nat.reduceEqDiff, resAll, resOf, Option.some.injEq, true_and, List.map_cons, List.map_nil, exists_eq_left']
        exact ⟨a2.trans b2, b3⟩)
      rw [h1] at hc
      refine ⟨H', ?_, ⟨h2.1.trans hg1.1, Nat.le_trans hgn h2.2.1, fun i hi => (h2.2.2 i (by omega)).trans (hg1.2.2 i hi)⟩, h3⟩
      rw [hE, hS]
      exact hc

end Go.Am
