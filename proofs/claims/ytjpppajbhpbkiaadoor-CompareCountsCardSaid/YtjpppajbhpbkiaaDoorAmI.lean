/-
align.rests, whole. Conditions: the lists are short.
-/
import Derived.Test.YtjpppajbhpbkiaaDoorAmH
set_option linter.unusedSimpArgs false
set_option linter.unusedVariables false
namespace Go.Am

/-- The table with its rows from m on. -/
structure Tb (H0 H : AH) (o : Nat) (A B : List Str) (m : Nat) : Prop where
  names : Names H
  floor : H.floor = H0.floor
  low : H0.floor ≤ H0.next
  nextO : o < H.next
  old : ∀ j, j < H0.next → H.get j = H0.get j
  lowO : H0.next ≤ o
  out : ∃ cells wh s0, H.get o = some ⟨cells, false, 63, wh, s0⟩ ∧ cells.length = A.length + 1 ∧
    ∀ i', m ≤ i' → i' ≤ A.length → ∃ q, cells[i']? = some (rowV B q) ∧ H0.next ≤ q ∧ q ≠ o ∧ q < H.next ∧ RowAt H q A B i' 0

theorem RowAt.agree {H H' : AH} {r : Nat} {A B : List Str} {i k : Nat} (h : RowAt H r A B i k) (e : H'.get r = H.get r) : RowAt H' r A B i k := by
  obtain ⟨c, w, s, g, l, f⟩ := h
  exact ⟨c, w, s, e.trans g, l, f⟩

theorem Tb.new {H0 : AH} (hN : Names H0) (hf : H0.floor ≤ H0.next) (A B : List Str) (cells : List AV) (hl : cells.length = A.length + 1) : Tb H0 (H0.push 63 false cells) H0.next A B (A.length + 1) where
  names := hN.push _ _ _
  floor := rfl
  low := hf
  nextO := Nat.lt_succ_self _
  old := fun j hj => get_push_old _ _ _ _ hj
  lowO := Nat.le_refl _
  out := ⟨cells, false, true, get_push_new _ _ _ _, hl, fun i' h1 h2 => absurd h1 (by omega)⟩

/-- A new row, not yet in the table. -/
theorem Tb.row {H0 H : AH} {o : Nat} {A B : List Str} {m : Nat} (h : Tb H0 H o A B (m + 1)) (cells : List AV) (hl : cells.length = B.length + 1) : In false H0 (H.push 3 false cells) o H.next A B m (B.length + 1) where
  names := h.names.push _ _ _
  floor := h.floor
  low := h.low
  nextO := Nat.lt_succ_of_lt h.nextO
  nextR := Nat.lt_succ_self _
  old := fun j hj => (get_push_old _ _ _ _ (by have h1 := h.lowO; have h2 := h.nextO; omega)).trans (h.old j hj)
  lowO := h.lowO
  lowR := by have h1 := h.lowO; have h2 := h.nextO; omega
  ne := Nat.ne_of_lt h.nextO
  row := ⟨cells, false, true, get_push_new _ _ _ _, hl, fun j h1 h2 => absurd h1 (by omega)⟩
  out := by
    obtain ⟨c, w, s, g, l, f⟩ := h.out
    refine ⟨c, w, s, (get_push_old _ _ _ _ h.nextO).trans g, l, (fun e => by cases e), fun i' h1 h2 => ?_⟩
    obtain ⟨q, q1, q2, q3, q4, q5⟩ := f i' h1 h2
    exact ⟨q, q1, q2, q3, Nat.ne_of_lt q4, Nat.lt_succ_of_lt q4, q5.agree (get_push_old _ _ _ _ q4)⟩

/-- The row goes into the table. -/
theorem In.put {w : Bool} {H0 H : AH} {o r : Nat} {A B : List Str} {i n : Nat} (h : In w H0 H o r A B i n) (hi : i ≤ A.length) :
    ∃ H', H.store o i [rowV B r] = some H' ∧ In true H0 H' o r A B i n := by
  obtain ⟨c, wh, s, g, l, oi, f⟩ := h.out
  have hlow := h.low
  have hfl := h.floor
  have hlo := h.lowO
  have agree : ∀ j, j ≠ o → (H.put o ⟨c.set i (rowV B r), false, 63, wh, s⟩).get j = H.get j := fun j hj => by rw [get_put, if_neg hj]
  refine ⟨H.put o ⟨c.set i (rowV B r), false, 63, wh, s⟩, ?_, ⟨h.names.put _ _, hfl, hlow, h.nextO, h.nextR, fun j hj => (agree j (by omega)).trans (h.old j hj), hlo, h.lowR, h.ne, h.row.agree (agree r (Ne.symm h.ne)), ?_⟩⟩
  · unfold AH.store
    rw [if_neg (by omega), g]
    have : i + 1 ≤ c.length := by omega
    simp [this, putAt, solid, rowV]
  · refine ⟨c.set i (rowV B r), wh, s, by rw [get_put, if_pos rfl, g]; rfl, by rw [List.length_set]; exact l, fun _ => by rw [List.getElem?_set_self (by omega)], fun i' h1 h2 => ?_⟩
    obtain ⟨q, q1, q2, q3, q4, q5, q6⟩ := f i' h1 h2
    exact ⟨q, by rw [List.getElem?_set_ne (by omega)]; exact q1, q2, q3, q4, q5, q6.agree (agree q q3)⟩

theorem In.done {H0 H : AH} {o r : Nat} {A B : List Str} {i : Nat} (h : In true H0 H o r A B i 0) : Tb H0 H o A B i where
  names := h.names
  floor := h.floor
  low := h.low
  nextO := h.nextO
  old := h.old
  lowO := h.lowO
  out := by
    obtain ⟨c, wh, s, g, l, oi, f⟩ := h.out
    refine ⟨c, wh, s, g, l, fun i' h1 h2 => ?_⟩
    by_cases e : i = i'
    · subst e
      exact ⟨r, oi rfl, h.lowR, Ne.symm h.ne, h.nextR, h.row⟩
    · obtain ⟨q, q1, q2, q3, q4, q5, q6⟩ := f i' (by omega) h2
      exact ⟨q, q1, q2, q3, q5, q6⟩

theorem rep_length (n : Nat) (z : AV) : (rep n [z]).length = n := by
  unfold rep
  induction n with
  | zero => rfl
  | succ n ih => simp_all [List.replicate_succ]

theorem Tryd.restsLoop (A B : List Str) (hA : A.length ≤ 512) (hB : B.length ≤ 512) (va vb : AV) (K : AX → St → Prop) (ks : List Fr) (L : ACode) (hL : L = .loop (some [0, 1, 5, 6]) Tryd.fn41_l1) (H0 : AH) (hva : StrS H0 va A) (hvb : StrS H0 vb B)
    (na : ∀ i o z n c, va = .sl i o z n c → i < H0.next) (nb : ∀ i o z n c, vb = .sl i o z n c → i < H0.next) (o : Nat)
    (hk : ∀ H u w, Tb H0 H o A B 0 → Nx Tryd.call K ks [(15, .bool false), (0, va), (1, vb), (5, .sl o 0 1 (A.length + 1) (some (A.length + 1))), (6, u), (15, w)] H) :
    ∀ (n : Nat) (k : Int) (H : AH), k = (n : Int) - 1 → n ≤ A.length + 1 → Tb H0 H o A B n →
    W Tryd.call K (.block 0 :: ks) [(0, va), (1, vb), (5, .sl o 0 1 (A.length + 1) (some (A.length + 1))), (6, .int .i64 k)] H L := by
  intro n
  induction n with
  | zero =>
    intro k H hkn hn hin
    refine W_loopN hL ?_
    simp only [Tryd.fn41_l1, Tryd.fn41_r3, AmR, kp, pushA, exe, Arg.val, Env.at, lk, putd, ok1, okM, abin, Option.getD_some, if_true, if_false, reduceCtorEq, Nat.reduceEqDiff]
    exact ⟨fun h => absurd h (by omega), fun _ => hk _ _ _ hin⟩
  | succ n ih =>
    intro k H hkn hn hin
    obtain rfl : k = (n : Int) := by omega
    refine W_loopN hL ?_
    have h0 : (0 : Int) ≤ (n : Int) := by omega
    have d1 : decide ((n : Int) ≥ 0) = true := decide_eq_true h0
    have hg : Grow H0 H := ⟨hin.floor, by have h1 := hin.lowO; have h2 := hin.nextO; omega, hin.old⟩
    have sb : StrS H vb B := SliceV.grow hvb hg nb
    have lb := SliceV.lenS sb
    have w1 : IntKind.i64.wrap ((B.length : Int) + 1) = ((B.length + 1 : Nat) : Int) := by rw [IntWalk.i64_in _ (by omega)]; omega
    have hw : IntKind.i64.wrap ((n : Int) - 1) = (n : Int) - 1 := IntWalk.i64_in _ (by omega)
    have ln : ((n : Int) < ((A.length + 1 : Nat) : Int)) = True := eq_true (by omega)
    have hm : (0 : Int) ≤ ((B.length + 1 : Nat) : Int) ∧ ((B.length + 1 : Nat) : Int) ≤ ((B.length + 1 : Nat) : Int) ∧ (B.length + 1) * 8 ≤ 140737488351232 ∧ ((B.length + 1 : Nat) : Int) ≤ 140737488351232 := ⟨by omega, Int.le_refl _, by omega, by omega⟩
    have hrow := hin.row (rep (B.length + 1) [.int .i64 0]) (rep_length _ _)
    obtain ⟨H2, st, hin2⟩ := hrow.put (by omega)
    unfold rowV rep at st
    simp only [Tryd.fn41_l1, Tryd.fn41_r3, d1, AmR, kp, pushA, exe, Arg.val, Env.at, lk, putd, ok1, okM, abin, Option.getD_some, if_true, if_false, reduceCtorEq, Nat.reduceEqDiff]
    simp only [Tryd.fn41_r4, lb, w1, hm, h0, ln, Int.toNat_natCast, and_self, Nat.zero_add, Nat.mul_one, st, AmR, kp, exe, Arg.val, Env.at, lk, putd, AV.cells?, ok1, okM, abin, Option.getD_some, if_true, if_false, reduceCtorEq, Nat.reduceEqDiff, List.length_cons, List.length_nil, Option.map_some, rep, ↓exe_lenl]
    simp only [Tryd.fn41_r5, lb, AmR, kp, exe, Arg.val, Env.at, lk, putd, ok1, okM, Option.getD_some, if_true, if_false, reduceCtorEq, Nat.reduceEqDiff, Option.map_some, ↓exe_lenl]
    refine Tryd.restsIn A B hA hB va vb _ _ _ rfl H0 hva hvb na nb o H.next n (by omega) ?_ (B.length + 1) _ H2 (by omega) (Nat.le_refl _) hin2
    intro H3 u w hin3
    simp only [Tryd.fn41_r17, hw, AmR, kp, exe, Arg.val, Env.at, lk, putd, ok1, okM, abin, Option.getD_some, if_true, if_false, reduceCtorEq, Nat.reduceEqDiff]
    exact ih _ H3 rfl (by omega) hin3.done

theorem rests_start {H0 : AH} (n : Nat) (hn : n ≤ 1000000) : (0 : Int) ≤ ((n + 1 : Nat) : Int) ∧ ((n + 1 : Nat) : Int) ≤ ((n + 1 : Nat) : Int) ∧ (n + 1) * 24 ≤ 140737488351232 ∧ ((n + 1 : Nat) : Int) ≤ 140737488351232 := ⟨by omega, Int.le_refl _, by omega, by omega⟩

def TblP (A B : List Str) (H0 : AH) (vs : List AV) (H' : AH) : Prop := vs = [.sl H0.next 0 1 (A.length + 1) (some (A.length + 1))] ∧ Tb H0 H' H0.next A B 0

theorem Tryd.rests (A B : List Str) (hA : A.length ≤ 512) (hB : B.length ≤ 512) (va vb : AV) (H0 : AH) (hN : Names H0) (hf : H0.floor ≤ H0.next) (hva : StrS H0 va A) (hvb : StrS H0 vb B)
    (na : ∀ i o z n c, va = .sl i o z n c → i < H0.next) (nb : ∀ i o z n c, vb = .sl i o z n c → i < H0.next) :
    ∃ H', Tryd.call 41 [va, vb] H0 = some (.ok (.sl H0.next 0 1 (A.length + 1) (some (A.length + 1))), H') ∧ Tb H0 H' H0.next A B 0 := by
  suffices h : W Tryd.call (endK Tryd.fn41.res (TblP A B H0)) [] [(0, va), (1, vb)] H0 Tryd.fn41.code by
    obtain ⟨vs, H', ⟨rfl, hp⟩, hc⟩ := ecall_E 4 [] (lk Tryd.ext) (lk Tryd.tab) (f := 41) (fn := Tryd.fn41) (args := [va, vb]) (H := H0) rfl rfl rfl h
    exact ⟨H', hc, hp⟩
  have la := SliceV.lenS hva
  have w1 : IntKind.i64.wrap ((A.length : Int) + 1) = ((A.length + 1 : Nat) : Int) := by rw [IntWalk.i64_in _ (by omega)]; omega
  have hm := rests_start (H0 := H0) A.length (by omega)
  have tb := Tb.new hN hf A B (rep (A.length + 1) [.nils]) (rep_length _ _)
  unfold rep at tb
  have hg : Grow H0 (H0.push 63 false (List.replicate (A.length + 1) [AV.nils]).flatten) := Grow.push _ _ _ _
  have la2 := SliceV.lenS (hva.grow hg na)
  simp only [Tryd.fn41, Tryd.fn41_r0, Tryd.fn41_r1, Tryd.fn41_r2, la, w1, hm, Int.toNat_natCast, AmR, kp, exe, Arg.val, Env.at, lk, putd, ok1, okM, abin, Option.getD_some, if_true, if_false, reduceCtorEq, Nat.reduceEqDiff, Nat.reduceAdd, and_true, List.length_cons, List.length_nil, Option.map_some, rep, ↓exe_lenl]
  refine Tryd.restsLoop A B hA hB va vb _ _ _ rfl H0 hva hvb na nb H0.next ?_ (A.length + 1) _ _ (by omega) (Nat.le_refl _) tb
  intro H u w tb'
  simp only [Tryd.fn41_r18, AmR, kp, exe, Arg.val, Env.at, lk, putd, ok1, Option.getD_some, if_true, if_false, reduceCtorEq, Nat.reduceEqDiff, resAll, resOf, Option.some.injEq, exists_eq_left']
  exact ⟨rfl, tb'⟩

end Go.Am
