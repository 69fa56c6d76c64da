/-
A builder's string. Conditions: the builder holds what it holds.
-/
import Derived.Test.YtolilamofgildaaDoorAmKe
set_option linter.unusedSimpArgs false
set_option linter.unusedVariables false
namespace Go.Am

theorem Tryd.builderString (H : AH) (p q : Nat) (s : List UInt8) (hN : Names H) (hfq : H.floor ≤ q) (h0 : 0 < s.length) (hlen : s.length ≤ 1000000)
    (hp : H.get p = some ⟨[.ptr p 0, .sl q 0 1 s.length none], false, 51, true, true⟩) (hq : H.get q = some ⟨ofBytes s, false, 5, false, true⟩) :
    Tryd.call 24 [.ptr p 0] H = some (.ok (.str s), H.kill q) := by
  refine ecall_W 6 [] _ _ (out := [.str s]) rfl rfl rfl ?_
  have hp' : lk H.blks p = some ⟨[.ptr p 0, .sl q 0 1 s.length none], false, 51, true, true⟩ := hp
  have hq' : lk H.blks q = some ⟨ofBytes s, false, 5, false, true⟩ := hq
  have hnew := hN.new
  simp only [Tryd.fn24, AmR, number]
  simp only [Tryd.fn24_r0, AmR, kp, exe, Arg.val, Env.at, lk, putd, ok1, Option.getD_some, if_true, if_false, reduceCtorEq]
  refine W_drawn' (by kernel_rfl) ?_
  simp only [Tryd.fn24_r1, Tryd.fn24_r1a, hp', hnew, h0, AmR, exe, Arg.val, Env.at, lk, putd, ok1, okM, AH.get, Option.getD_some, if_true, if_false, List.getElem?_cons_zero, List.getElem?_cons_succ, reduceCtorEq, Nat.reduceEqDiff, Nat.reduceAdd, true_and, List.nil_append, visH, List.filter_nil, List.flatMap_nil, List.contains_cons, List.contains_nil, Bool.or_false, AH.cellsAt, List.drop_zero, Option.map_some, ↓exe_lenl, lenS_sl]
  have c1 : (5 : Nat) = 5 ∧ false = false ∧ true = true ∧ H.floor ≤ q ∧ (0 : Int) < (s.length : Int) ∧ (s.length : Int) ≤ 140737488351232 := ⟨rfl, rfl, rfl, hfq, by omega, by omega⟩
  have c2 : 0 + s.length ≤ (ofBytes s).length := by rw [ofBytes_length]; omega
  have c3 : (ofBytes s).take s.length = ofBytes s := List.take_of_length_le (by rw [ofBytes_length]; omega)
  simp only [hq', hfq, Int.toNat_natCast, c2, c3, toBytes_of, c1.2.2.2.2.1, c1.2.2.2.2.2, AmR, kp, exe, Arg.val, Env.at, lk, putd, ok1, Option.getD_some, if_true, if_false, reduceCtorEq, Nat.reduceEqDiff, Nat.reduceAdd, resAll, resOf, and_true, List.nil_append, visH, List.flatMap_nil, Option.map_some]

end Go.Am
