/-
lex.Quote. Conditions: none.
-/
import Derived.Test.YtolilamofgildaaDoorAmKf
set_option linter.unusedSimpArgs false
set_option linter.unusedVariables false
namespace Go.Am

def hexDigits : List UInt8 := [48, 49, 50, 51, 52, 53, 54, 55, 56, 57, 97, 98, 99, 100, 101, 102]
def hexB (n : Nat) : UInt8 := hexDigits.getD n 0
/-- A byte, quoted. -/
def quote1 (c : UInt8) : List UInt8 :=
  if plainB c.toNat then [c] else if c = 34 ∨ c = 92 then [92, c] else if c = 10 then [92, 110] else [92, 120, hexB (c.toNat / 16), hexB (c.toNat % 16)]
def quoteL (d : List UInt8) : List UInt8 := 34 :: (d.flatMap quote1 ++ [34])

/-- What the loop holds: a builder at p with a buffer. -/
def QInv (H : AH) (p : Nat) (s : List UInt8) : Prop :=
  Names H ∧ H.floor ≤ p ∧ p < H.next ∧ s.length ≤ 1000000 ∧ ∃ q, q ≠ p ∧ H.floor ≤ q ∧ q < H.next ∧ 0 < s.length ∧
    H.get p = some ⟨[.ptr p 0, .sl q 0 1 s.length none], false, 51, true, true⟩ ∧ H.get q = some ⟨ofBytes s, false, 5, false, true⟩

theorem QInv.byte {H : AH} {p : Nat} {s : List UInt8} (h : QInv H p s) (c : UInt8) (hl : s.length + 1 ≤ 1000000) :
    ∃ H', Tryd.call 23 [.ptr p 0, .int .u8 c.toNat] H = some (.ok .nili, H') ∧ QInv H' p (s ++ [c]) := by
  obtain ⟨hN, hfp, hpn, hlen, q, hqp, hfq, hqn, h0, hp, hq⟩ := h
  refine ⟨_, Tryd.writeByte H p q s c.toNat hqp hfq hfp hpn hqn hlen hp hq, ?_⟩
  refine ⟨((hN.push _ _ _).turn _ _ _ _).put _ _, hfp, by show p < H.next + 1 + 1; omega, by simp; omega, H.next + 1, by omega, by show H.floor ≤ H.next + 1; omega, by show H.next + 1 < H.next + 1 + 1; omega, by simp, ?_, ?_⟩
  · unfold wrote
    rw [get_put, if_pos rfl, get_turn, if_neg (by show ¬ p = H.next + 1; omega), if_neg (Ne.symm hqp), get_push_old _ _ _ _ hpn, hp]
    simp
  · unfold wrote
    rw [get_put, if_neg (by omega), get_turn]
    have : H.next + 1 = (H.push 5 true [AV.int IntKind.u8 ↑c.toNat]).next := rfl
    rw [if_pos this]
    simp [ofBytes]

theorem QInv.str {H : AH} {p : Nat} {s : List UInt8} (h : QInv H p s) (t : List UInt8) (ht : t ≠ []) (hl : s.length + t.length ≤ 1000000) :
    ∃ H', Tryd.call 30 [.ptr p 0, .str t] H = some (.ok (.tup [.int .i64 t.length, .nili]), H') ∧ QInv H' p (s ++ t) := by
  obtain ⟨hN, hfp, hpn, hlen, q, hqp, hfq, hqn, h0, hp, hq⟩ := h
  refine ⟨_, Tryd.writeString H p q s t hqp hfq hfp hpn hl (by cases t with | nil => exact absurd rfl ht | cons _ _ => simp [ofBytes]) hp hq, ?_⟩
  refine ⟨(hN.turn _ _ _ _).put _ _, hfp, by show p < H.next + 1; omega, by simp; omega, H.next, by omega, by show H.floor ≤ H.next; omega, by show H.next < H.next + 1; omega, by simp; omega, ?_, ?_⟩
  · unfold wroteS
    rw [get_put, if_pos rfl, get_turn, if_neg (by omega), if_neg (Ne.symm hqp), hp]
    simp
  · unfold wroteS
    rw [get_put, if_neg (by omega), get_turn, if_pos rfl, ofBytes_append]

end Go.Am
