/-
A table's cell in its column; a table's size. Conditions: those that each theorem names.
-/
import Derived.Test.YtolilamofgildaaDoorAmD
import Derived.Test.YtolilamofgildaaDoorAmWb
set_option linter.unusedSimpArgs false
set_option linter.unusedVariables false
namespace Go.Am

theorem repeat_one (c : UInt8) : ∀ n, Lib.repeatL [c] n = List.replicate n c
  | 0 => rfl
  | n + 1 => by simp [Lib.repeatL, repeat_one c n, List.replicate_succ]

theorem Tryd.blanks (n : Nat) (h : n ≤ 140737488355326) (H : AH) : Tryd.call 41 [.str [32], .int .i64 ((n + 2 : Nat) : Int)] H = some (.ok (.str (List.replicate (n + 2) 32)), H) := by
  refine ecall_ext 6 [] _ _ (g := gRepeat) rfl _ H ?_
  show (if 2 ≤ ((n + 2 : Nat) : Int) ∧ ((n + 2 : Nat) : Int) ≤ 9223372036854775807 ∧ [(32 : UInt8)].length * (((n + 2 : Nat) : Int)).toNat ≤ 140737488355328 ∧ 0 < [(32 : UInt8)].length then ok1 H (.str (Lib.repeatL [32] (((n + 2 : Nat) : Int)).toNat)) else none) = _
  have h1 : 2 ≤ ((n + 2 : Nat) : Int) ∧ ((n + 2 : Nat) : Int) ≤ 9223372036854775807 ∧ [(32 : UInt8)].length * (((n + 2 : Nat) : Int)).toNat ≤ 140737488355328 ∧ 0 < [(32 : UInt8)].length := ⟨by omega, by omega, by simp; omega, by simp⟩
  rw [if_pos h1, Int.toNat_natCast, repeat_one]
  rfl

/-- A cell with what follows it in its row. -/
def padS (s : List UInt8) (w : Nat) (last : Bool) : List UInt8 := if last then s else s ++ List.replicate (w - s.length + 2) 32

theorem Tryd.columnEnd (m : Nat) (H : AH) (p : Nat) (b t : List UInt8) (w : Nat) (last : Bool) (i1 i2 i3 i4 : Nat) (h : SB m H p b) (hmn : m ≤ H.next) (hw : t.length ≤ w) (hl : b.length + w ≤ 70368744177000)
    (g1 : H.get i1 = some ⟨[.bool last], false, 4, true, true⟩) (g2 : H.get i2 = some ⟨[.ptr p 0], false, 48, true, true⟩) (g3 : H.get i3 = some ⟨[.int .i64 w], false, 3, true, true⟩) (g4 : H.get i4 = some ⟨[.str t], false, 9, true, true⟩) :
    ∃ H', Tryd.call 40 [.ptr i1 0, .ptr i2 0, .ptr i3 0, .ptr i4 0] H = some (.ok (.tup []), H') ∧ SB m H' p (b ++ (if last then [] else List.replicate (w - t.length + 2) 32)) ∧ Kept m H H' := by
  cases last with
  | true =>
    refine ⟨H, ?_, by simpa using h, Kept.refl _ _⟩
    refine ecall_W 6 [] _ _ (out := []) rfl rfl rfl ?_
    show W Tryd.call _ _ _ _ _
    simp only [Tryd.fn40, Tryd.fn40_r0, g1, exactK_nrm, AmR, kp, pushA, exe, number, Arg.val, Env.at, lk, putd, okM, Option.getD_some, if_true, if_false, List.getElem?_cons_zero, Bool.not_true, reduceCtorEq, Nat.reduceEqDiff, Nat.reduceAdd, resAll, and_true, aun]
  | false =>
    have hw1 : IntKind.i64.wrap ((w : Int) - (t.length : Int)) = ((w - t.length : Nat) : Int) := by rw [IntWalk.i64_in _ (by omega)]; omega
    have hw2 : IntKind.i64.wrap (((w - t.length : Nat) : Int) + 2) = ((w - t.length + 2 : Nat) : Int) := by rw [IntWalk.i64_in _ (by omega)]; omega
    have hbl := Tryd.blanks (w - t.length) (by omega)
    obtain ⟨H', a1, a2, a3⟩ := h.writeK hmn (List.replicate (w - t.length + 2) 32) (by simp [List.replicate_succ]) (by simp; omega)
    have hnew := h.1.new
    refine ⟨H', ?_, by simpa using a2, a3⟩
    refine ecall_W 6 [] _ _ (out := []) rfl rfl rfl ?_
    show W Tryd.call _ _ _ _ _
    simp only [Tryd.fn40, Tryd.fn40_r0, g1, AmR, kp, pushA, exe, number, Arg.val, Env.at, lk, putd, okM, Option.getD_some, if_true, if_false, List.getElem?_cons_zero, Bool.not_false, reduceCtorEq, Nat.reduceEqDiff, Nat.reduceAdd, aun]
    refine W_drawn' (by kernel_rfl) ?_
    have gb1 : ∀ nx fl, (AH.mk H.blks nx fl).get i2 = some ⟨[.ptr p 0], false, 48, true, true⟩ := fun _ _ => g2
    have gb2 : ∀ nx fl, (AH.mk H.blks nx fl).get i3 = some ⟨[.int .i64 w], false, 3, true, true⟩ := fun _ _ => g3
    have gb3 : ∀ nx fl, (AH.mk H.blks nx fl).get i4 = some ⟨[.str t], false, 9, true, true⟩ := fun _ _ => g4
    simp only [Tryd.fn40_r1, gb1, gb2, gb3, hw1, hw2, hbl, hnew, a1, exactK_nrm, AmR, kp, exe, Arg.val, Env.at, lk, putd, ok1, okM, abin, Option.getD_some, if_true, if_false, List.getElem?_cons_zero, Nat.reduceEqDiff, Nat.reduceAdd, resAll, and_true, List.nil_append, visH, List.filter_nil, List.flatMap_nil, List.contains_cons, List.contains_nil, Bool.or_false, List.map_cons, List.map_nil]

theorem Tryd.column (m : Nat) (H : AH) (p : Nat) (b t : List UInt8) (w : Nat) (last : Bool) (h : SB m H p b) (hmn : m ≤ H.next) (ht : t ≠ []) (hw : t.length ≤ w) (hl : b.length + w + w ≤ 70368744177000) :
    ∃ H', Tryd.call 22 [.ptr p 0, .str t, .int .i64 w, .bool last] H = some (.ok (.tup []), H') ∧ SB m H' p (b ++ padS t w last) ∧ Kept m H H' := by
  have hp : p < H.next := h.2.2.2.1
  have s1 := (((h.push 48 true [.ptr p 0]).push 9 true [.str t]).push 3 true [.int .i64 w]).push 4 true [.bool last]
  generalize hG : (((H.push 48 true [.ptr p 0]).push 9 true [.str t]).push 3 true [.int .i64 w]).push 4 true [.bool last] = G at s1
  have gn : G.next = H.next + 4 := by rw [← hG]; rfl
  have gf : G.floor = H.floor := by rw [← hG]; rfl
  have k0 : Kept m H G := by
    rw [← hG]
    exact (((Kept.push m H hmn _ _ _).trans (Kept.push m _ (by show m ≤ H.next + 1; omega) _ _ _)).trans (Kept.push m _ (by show m ≤ H.next + 1 + 1; omega) _ _ _)).trans (Kept.push m _ (by show m ≤ H.next + 1 + 1 + 1; omega) _ _ _)
  have g2 : G.get H.next = some ⟨[.ptr p 0], false, 48, true, true⟩ := by
    rw [← hG, get_push_old _ _ _ _ (by show H.next < H.next + 1 + 1 + 1; omega), get_push_old _ _ _ _ (by show H.next < H.next + 1 + 1; omega), get_push_old _ _ _ _ (by show H.next < H.next + 1; omega)]; exact get_push_new _ _ _ _
  have g4 : G.get (H.next + 1) = some ⟨[.str t], false, 9, true, true⟩ := by
    rw [← hG, get_push_old _ _ _ _ (by show H.next + 1 < H.next + 1 + 1 + 1; omega), get_push_old _ _ _ _ (by show H.next + 1 < H.next + 1 + 1; omega)]; exact get_push_new (H.push 48 true [.ptr p 0]) _ _ _
  have g3 : G.get (H.next + 1 + 1) = some ⟨[.int .i64 w], false, 3, true, true⟩ := by
    rw [← hG, get_push_old _ _ _ _ (by show H.next + 1 + 1 < H.next + 1 + 1 + 1; omega)]; exact get_push_new ((H.push 48 true [.ptr p 0]).push 9 true [.str t]) _ _ _
  have g1 : G.get (H.next + 1 + 1 + 1) = some ⟨[.bool last], false, 4, true, true⟩ := by
    rw [← hG]; exact get_push_new (((H.push 48 true [.ptr p 0]).push 9 true [.str t]).push 3 true [.int .i64 w]) _ _ _
  have n1 : (H.push 48 true [.ptr p 0]).next = H.next + 1 := rfl
  have n2 : ((H.push 48 true [.ptr p 0]).push 9 true [.str t]).next = H.next + 1 + 1 := rfl
  have n3 : (((H.push 48 true [.ptr p 0]).push 9 true [.str t]).push 3 true [.int .i64 w]).next = H.next + 1 + 1 + 1 := rfl
  obtain ⟨H1, b1, b2, b3, b4, b5, b6⟩ := s1.writeW (by omega) t ht (by omega)
  have w2 := b6 _ _ (by omega) (by omega) g2 rfl
  have w3 := b6 _ _ (by omega) (by omega) g3 rfl
  have w4 := b6 _ _ (by omega) (by omega) g4 rfl
  have w1 := b6 _ _ (by omega) (by omega) g1 rfl
  obtain ⟨H2, c1, c2, c3⟩ := Tryd.columnEnd m H1 p (b ++ t) t w last (H.next + 1 + 1 + 1) H.next (H.next + 1 + 1) (H.next + 1) b2 (by omega) hw (by rw [List.length_append]; omega) w1 w2 w3 w4
  obtain ⟨vs, H', hR, hc⟩ := ecall_dW 6 [] (lk Tryd.ext) (lk Tryd.tab) (f := 22) (fn := Tryd.fn22) (args := [.ptr p 0, .str t, .int .i64 w, .bool last]) (H := H) (R := fun vs H' => vs = [] ∧ H' = H2) rfl rfl rfl rfl (by
    show W Tryd.call _ _ _ _ _
    simp only [Tryd.fn22_r1, Tryd.fn22_r2, hG, n1, n2, n3, deferK_nrm, AmR, exe, number, Arg.val, Env.at, lk, putd, AV.cells?, ok1, Option.getD_some, if_true, if_false, reduceCtorEq, Nat.reduceEqDiff, Nat.reduceAdd, List.map_cons, List.map_nil]
    refine ⟨_, _, rfl, rfl, ?_⟩
    show W Tryd.call _ _ _ _ _
    simp only [Tryd.fn22, Tryd.fn22_r0, g2, g4, b1, closeK_nrm, AmR, exe, Arg.val, Env.at, lk, putd, okM, Option.getD_some, if_true, if_false, List.getElem?_cons_zero, reduceCtorEq, Nat.reduceEqDiff, resAll, Option.some.injEq, true_and, List.map_cons, List.map_nil, exists_eq_left']
    exact ⟨_, _, c1, rfl⟩)
  obtain ⟨rfl, rfl⟩ := hR
  refine ⟨H', hc, ?_, k0.trans (Kept.trans ⟨b3, b4, b5⟩ c3)⟩
  unfold padS
  cases last
  · simpa using c2
  · simpa using c2

end Go.Am
