/-
lex.Quote's loop. Conditions: none.
-/
import Derived.Test.YtolilamofgildaaDoorAmKg
set_option linter.unusedSimpArgs false
set_option linter.unusedVariables false
namespace Go.Am

theorem quote1_len (c : UInt8) : (quote1 c).length ≤ 4 := by unfold quote1; split <;> (try split) <;> (try split) <;> simp
theorem quotes_len (d : List UInt8) : (d.flatMap quote1).length ≤ 4 * d.length := by
  induction d with
  | nil => simp
  | cons c d ih => have := quote1_len c; simp only [List.flatMap_cons, List.length_append, List.length_cons]; omega
theorem quotes_step {d : List UInt8} {i : Nat} {c : UInt8} (h : d[i]? = some c) : (d.take (i + 1)).flatMap quote1 = (d.take i).flatMap quote1 ++ quote1 c := by
  rw [List.take_add_one, h]; simp
theorem hexB_at {n : Nat} (h : n < 16) : ([48, 49, 50, 51, 52, 53, 54, 55, 56, 57, 97, 98, 99, 100, 101, 102] : List UInt8)[n]? = some (hexB n) := by
  have : ∀ n : Fin 16, ([48, 49, 50, 51, 52, 53, 54, 55, 56, 57, 97, 98, 99, 100, 101, 102] : List UInt8)[n.val]? = some (hexB n.val) := by decide
  exact this ⟨n, h⟩
theorem shr4 {n : Nat} : abin .shr (.int .u8 (n : Int)) (.int .u64 4) = some (.int .u8 ((n / 16 : Nat) : Int)) := by
  have h1 : min (4 : Int).toNat IntKind.u8.bits = 4 := rfl
  have h2 : (n : Int).fdiv (2 ^ 4) = ((n / 16 : Nat) : Int) := by
    rw [Int.fdiv_eq_ediv_of_nonneg _ (by decide)]; omega
  simp only [abin, h1, h2]
  rfl
theorem and15 {n : Nat} (h : n < 256) : abin .and (.int .u8 (n : Int)) (.int .u8 15) = some (.int .u8 ((n % 16 : Nat) : Int)) := by
  have : ∀ n : Fin 256, IntKind.u8.wrap ((BitVec.ofInt IntKind.u8.bits (n.val : Int) &&& BitVec.ofInt IntKind.u8.bits 15).toNat : Int) = ((n.val % 16 : Nat) : Int) := by decide +kernel
  have h1 := this ⟨n, h⟩
  simp only [abin, h1]
  rfl
theorem i32_byte (c : UInt8) : IntKind.i32.wrap (c.toNat : Int) = c.toNat := by
  have : ∀ n : Fin 256, IntKind.i32.wrap (n.val : Int) = (n.val : Int) := by decide +kernel
  exact this ⟨c.toNat, c.toNat_lt⟩

theorem Tryd.quoteLoop (d : List UInt8) (hd : d.length ≤ 200000) (K : AX → St → Prop) (ks : List Fr) (p : Nat) (L : ACode) (hL : L = .loop (some [0, 3, 8, 9]) Tryd.fn46_l0) : ∀ (n i : Nat) (H : AH), n + i = d.length → QInv H p (34 :: (d.take i).flatMap quote1) →
    (∀ H' v, QInv H' p (34 :: d.flatMap quote1) → Nx Tryd.call K ks [(10, .bool false), (0, .str d), (3, .ptr p 0), (8, .int .i64 d.length), (9, .int .i64 d.length), (10, v)] H') →
    W Tryd.call K (.block 0 :: ks) [(0, .str d), (3, .ptr p 0), (8, .int .i64 d.length), (9, .int .i64 i)] H L := by
  intro n
  induction n with
  | zero =>
    intro i H hi hq hk
    refine W_loopN hL ?_
    have hi' : i = d.length := by omega
    subst hi'
    simp only [Tryd.fn46_l0, Tryd.fn46_r4, AmR, kp, pushA, exe, Arg.val, Env.at, lk, putd, okM, abin, Option.getD_some, if_true, if_false, reduceCtorEq, Nat.reduceEqDiff]
    refine ⟨fun h => absurd h (by omega), fun _ => ?_⟩
    rw [List.take_length] at hq
    exact hk _ _ hq
  | succ n ih =>
    intro i H hi hq hk
    refine W_loopN hL ?_
    obtain ⟨c, hc⟩ : ∃ c, d[i]? = some c := ⟨_, List.getElem?_eq_getElem (by omega)⟩
    have h0 : (0 : Int) ≤ (i : Int) := by omega
    have hcb := c.toNat_lt
    have hw : IntKind.i64.wrap ((i : Int) + 1) = ((i + 1 : Nat) : Int) := by rw [IntWalk.i64_in _ (by omega)]; omega
    have hpl := Tryd.plain (c.toNat : Int)
    have hst := quotes_step hc
    have hlen : ((d.take i).flatMap quote1).length + 4 ≤ 900000 := by
      have := quotes_len (d.take i)
      have h2 : (d.take i).length ≤ d.length := by rw [List.length_take]; omega
      omega
    have key : ∀ H', QInv H' p (34 :: (d.take i).flatMap quote1 ++ quote1 c) → W Tryd.call K (.block 0 :: ks) [(0, .str d), (3, .ptr p 0), (8, .int .i64 d.length), (9, .int .i64 ((i + 1 : Nat) : Int))] H' L := fun H' hq' => ih (i + 1) H' (by omega) (by rw [hst]; exact hq') hk
    simp only [Tryd.fn46_l0, Tryd.fn46_r4, AmR, kp, pushA, exe, Arg.val, Env.at, lk, putd, okM, abin, Option.getD_some, if_true, if_false, reduceCtorEq, Nat.reduceEqDiff]
    refine ⟨fun h => ?_, fun h => absurd h (by omega)⟩
    simp only [Tryd.fn46_r5, AmR, kp, exe, Arg.val, Env.at, lk, putd, ok1, Option.getD_some, if_true, if_false, reduceCtorEq, Nat.reduceEqDiff]
    simp only [Tryd.fn46_r6, h0, Int.toNat_natCast, hc, AmR, kp, exe, Arg.val, Env.at, lk, putd, ok1, okM, Option.getD_some, if_true, if_false, reduceCtorEq, Nat.reduceEqDiff, Option.map_some]
    simp only [Tryd.fn46_r7, i32_byte, hpl, Cd_bool, AmR, kp, pushA, exe, Arg.val, Env.at, lk, putd, ok1, Option.getD_some, if_true, if_false, reduceCtorEq, Nat.reduceEqDiff, List.map_cons, List.map_nil]
    refine ⟨fun hp => ?_, fun hp => ?_⟩
    · obtain ⟨H1, hb, hq1⟩ := hq.byte c (by simp only [List.length_cons]; omega)
      simp only [Tryd.fn46_r8, hb, AmR, kp, exe, Arg.val, Env.at, lk, putd, ok1, Option.getD_some, if_true, if_false, reduceCtorEq, Nat.reduceEqDiff, List.map_cons, List.map_nil]
      simp only [Tryd.fn46_r17, hw, AmR, kp, exe, Arg.val, Env.at, lk, putd, ok1, okM, abin, Option.getD_some, if_true, if_false, reduceCtorEq, Nat.reduceEqDiff]
      refine key _ ?_
      have : quote1 c = [c] := by unfold quote1; rw [if_pos hp]
      rw [this]; exact hq1
    · have np : ¬ plainB c.toNat = true := by rw [hp]; decide
      have esc : c = 34 ∨ c = 92 → ∃ H1 H2, Tryd.call 23 [.ptr p 0, .int .u8 92] H = some (.ok .nili, H1) ∧ Tryd.call 23 [.ptr p 0, .int .u8 c.toNat] H1 = some (.ok .nili, H2) ∧ QInv H2 p (34 :: (d.take i).flatMap quote1 ++ quote1 c) := fun hc => by
        obtain ⟨H1, hb, hq1⟩ := hq.byte 92 (by simp only [List.length_cons]; omega)
        obtain ⟨H2, hb2, hq2⟩ := hq1.byte c (by simp only [List.length_cons, List.length_append, List.length_nil]; omega)
        refine ⟨H1, H2, hb, hb2, ?_⟩
        have : quote1 c = [92, c] := by unfold quote1; rw [if_neg np, if_pos hc]
        rw [this]
        rw [List.append_assoc] at hq2
        exact hq2
      simp only [Tryd.fn46_r9, AmR, Cd_beq, Rf_beq, kp, pushA, exe, Arg.val, Env.at, lk, putd, ok1, okM, abin, Option.getD_some, if_true, if_false, reduceCtorEq, Nat.reduceEqDiff, Bool.false_eq_true]
      refine ⟨fun h34 => ?_, fun h34 => ⟨fun h92 => ?_, fun h92 => ?_⟩⟩
      · obtain ⟨H1, H2, hb1, hb2, hq2⟩ := esc (.inl (UInt8.toNat_inj.1 (by show c.toNat = 34; omega)))
        simp only [Tryd.fn46_r10, hb1, AmR, kp, exe, Arg.val, Env.at, lk, putd, Option.getD_some, if_true, if_false, reduceCtorEq, Nat.reduceEqDiff, List.map_cons, List.map_nil]
        simp only [Tryd.fn46_r11, hb2, AmR, kp, exe, Arg.val, Env.at, lk, putd, ok1, Option.getD_some, if_true, if_false, reduceCtorEq, Nat.reduceEqDiff, List.map_cons, List.map_nil]
        simp only [Tryd.fn46_r17, hw, AmR, kp, exe, Arg.val, Env.at, lk, putd, ok1, okM, abin, Option.getD_some, if_true, if_false, reduceCtorEq, Nat.reduceEqDiff]
        exact key _ hq2
      · obtain ⟨H1, H2, hb1, hb2, hq2⟩ := esc (.inr (UInt8.toNat_inj.1 (by show c.toNat = 92; omega)))
        simp only [Tryd.fn46_r10, hb1, AmR, kp, exe, Arg.val, Env.at, lk, putd, Option.getD_some, if_true, if_false, reduceCtorEq, Nat.reduceEqDiff, List.map_cons, List.map_nil]
        simp only [Tryd.fn46_r11, hb2, AmR, kp, exe, Arg.val, Env.at, lk, putd, ok1, Option.getD_some, if_true, if_false, reduceCtorEq, Nat.reduceEqDiff, List.map_cons, List.map_nil]
        simp only [Tryd.fn46_r17, hw, AmR, kp, exe, Arg.val, Env.at, lk, putd, ok1, okM, abin, Option.getD_some, if_true, if_false, reduceCtorEq, Nat.reduceEqDiff]
        exact key _ hq2
      · have nq : ¬ (c = 34 ∨ c = 92) := by rintro (rfl | rfl) <;> simp at h34 h92
        simp only [Tryd.fn46_r12, AmR, Cd_beq, kp, pushA, exe, Arg.val, Env.at, lk, putd, ok1, okM, abin, Option.getD_some, if_true, if_false, reduceCtorEq, Nat.reduceEqDiff]
        refine ⟨fun h10 => ?_, fun h10 => ?_⟩
        · have c10 : c = 10 := UInt8.toNat_inj.1 (by show c.toNat = 10; omega)
          obtain ⟨H1, hb, hq1⟩ := hq.str [92, 110] (by simp) (by simp only [List.length_cons, List.length_nil]; omega)
          simp only [Tryd.fn46_r13, hb, AmR, kp, exe, Arg.val, Env.at, lk, putd, Option.getD_some, if_true, if_false, reduceCtorEq, Nat.reduceEqDiff, Nat.reduceAdd, List.map_cons, List.map_nil, List.length_cons, List.length_nil, Int.cast_ofNat_Int]
          simp only [Tryd.fn46_r17, hw, AmR, kp, exe, Arg.val, Env.at, lk, putd, ok1, okM, abin, Option.getD_some, if_true, if_false, reduceCtorEq, Nat.reduceEqDiff]
          refine key _ ?_
          have : quote1 c = [92, 110] := by unfold quote1; rw [if_neg np, if_neg nq, if_pos c10]
          rw [this]; exact hq1
        · have n10 : ¬ c = 10 := by rintro rfl; simp at h10
          obtain ⟨H1, hb, hq1⟩ := hq.str [92, 120] (by simp) (by simp only [List.length_cons, List.length_nil]; omega)
          obtain ⟨H2, hb2, hq2⟩ := hq1.byte (hexB (c.toNat / 16)) (by simp only [List.length_cons, List.length_append, List.length_nil]; omega)
          obtain ⟨H3, hb3, hq3⟩ := hq2.byte (hexB (c.toNat % 16)) (by simp only [List.length_cons, List.length_append, List.length_nil]; omega)
          have a1 : (0 : Int) ≤ ((c.toNat / 16 : Nat) : Int) := by omega
          have a2 : (0 : Int) ≤ ((c.toNat % 16 : Nat) : Int) := by omega
          have x1 := hexB_at (n := c.toNat / 16) (by omega)
          have x2 := hexB_at (n := c.toNat % 16) (by omega)
          have y2 := and15 hcb
          simp only [Tryd.fn46_r14, hb, AmR, kp, exe, Arg.val, Env.at, lk, putd, Option.getD_some, if_true, if_false, reduceCtorEq, Nat.reduceEqDiff, Nat.reduceAdd, List.map_cons, List.map_nil, List.length_cons, List.length_nil, Int.cast_ofNat_Int]
          simp only [Tryd.fn46_r15, shr4, a1, Int.toNat_natCast, x1, hb2, AmR, kp, exe, Arg.val, Env.at, lk, putd, ok1, okM, Option.getD_some, if_true, if_false, reduceCtorEq, Nat.reduceEqDiff, List.map_cons, List.map_nil, Option.map_some]
          simp only [Tryd.fn46_r16, y2, a2, Int.toNat_natCast, x2, hb3, AmR, kp, exe, Arg.val, Env.at, lk, putd, ok1, okM, Option.getD_some, if_true, if_false, reduceCtorEq, Nat.reduceEqDiff, List.map_cons, List.map_nil, Option.map_some]
          simp only [Tryd.fn46_r17, hw, AmR, kp, exe, Arg.val, Env.at, lk, putd, ok1, okM, abin, Option.getD_some, if_true, if_false, reduceCtorEq, Nat.reduceEqDiff]
          refine key _ ?_
          have : quote1 c = [92, 120, hexB (c.toNat / 16), hexB (c.toNat % 16)] := by unfold quote1; rw [if_neg np, if_neg nq, if_neg n10]
          rw [this]
          simp only [List.append_assoc, List.cons_append, List.nil_append] at hq3 ⊢
          exact hq3

theorem QInv.new {H : AH} {p : Nat} (hN : Names H) (hfp : H.floor ≤ p) (hpn : p < H.next) (hp : H.get p = some ⟨[.nilp, .nils], false, 51, true, true⟩) (c : UInt8) :
    ∃ H', Tryd.call 23 [.ptr p 0, .int .u8 c.toNat] H = some (.ok .nili, H') ∧ QInv H' p [c] := by
  refine ⟨_, Tryd.writeByte1 H p c.toNat hfp hpn hp, ?_⟩
  unfold wrote1
  refine ⟨(((hN.put _ _).push _ _ _).push _ _ _).put _ _, hfp, by show p < H.next + 1 + 1; omega, by simp, H.next + 1, by omega, by show H.floor ≤ H.next + 1; omega, by show H.next + 1 < H.next + 1 + 1; omega, by simp, ?_, ?_⟩
  · rw [get_put, if_pos rfl, get_push_old _ _ _ _ (by show p < H.next + 1; omega), get_push_old _ _ _ _ (by show p < H.next; omega), get_put, if_pos rfl, hp]
    simp
  · rw [get_put, if_neg (by omega)]
    exact get_push_new ((H.put p ⟨[.ptr p 0, .nils], false, 51, true, true⟩).push 5 true [.int .u8 c.toNat]) 5 false _

theorem QInv.string {H : AH} {p : Nat} {s : List UInt8} (h : QInv H p s) : ∃ H', Tryd.call 24 [.ptr p 0] H = some (.ok (.str s), H') := by
  obtain ⟨hN, hfp, hpn, hlen, q, hqp, hfq, hqn, h0, hp, hq⟩ := h
  exact ⟨_, Tryd.builderString H p q s hN hfq h0 hlen hp hq⟩

theorem Tryd.quote (d : List UInt8) (hd : d.length ≤ 200000) (H : AH) : Tryd.call 46 [.str d] H = some (.ok (.str (quoteL d)), H) := by
  refine ecall_flat 6 [] _ _ (out := [.str (quoteL d)]) rfl rfl rfl (views_flat rfl (views_nil H 6)) rfl ?_
  show W Tryd.call _ _ _ _ _
  obtain ⟨H1, hb1, hq1⟩ := QInv.new (H := ⟨[(6, ⟨[.nilp, .nils], false, 51, true, true⟩)], 7, 6⟩) (p := 6) (by intro x hx; simp at hx; subst hx; decide) (by decide) (by decide) rfl 34
  have hb1' : Tryd.call 23 [.ptr 6 0, .int .u8 34] ⟨[(6, ⟨[.nilp, .nils], false, 51, true, true⟩)], 7, 6⟩ = _ := hb1
  simp only [Tryd.fn46, AmR, number, List.append_nil]
  simp only [Tryd.fn46_r0, AmR, kp, exe, Arg.val, Env.at, lk, putd, ok1, Option.getD_some, if_true, if_false, reduceCtorEq]
  simp only [Tryd.fn46_r1, AmR, kp, exe, Env.at, lk, putd, ok1, AH.push, Option.getD_some, if_true, if_false, reduceCtorEq, Nat.reduceAdd]
  simp only [Tryd.fn46_r2, hb1', AmR, kp, exe, Arg.val, Env.at, lk, putd, Option.getD_some, if_true, if_false, reduceCtorEq, Nat.reduceEqDiff, List.map_cons, List.map_nil]
  simp only [Tryd.fn46_r3, AmR, kp, exe, Arg.val, Env.at, lk, putd, ok1, Option.getD_some, if_true, if_false, reduceCtorEq, Nat.reduceEqDiff]
  refine Tryd.quoteLoop d hd _ _ 6 _ rfl d.length 0 _ (by omega) hq1 ?_
  intro H2 v hq2
  obtain ⟨H3, hb3, hq3⟩ := hq2.byte 34 (by have := quotes_len d; simp only [List.length_cons]; omega)
  obtain ⟨H4, hb4⟩ := hq3.string
  have hb3' : Tryd.call 23 [.ptr 6 0, .int .u8 34] H2 = _ := hb3
  simp only [Tryd.fn46_r18, hb3', AmR, kp, exe, Arg.val, Env.at, lk, putd, Option.getD_some, if_true, if_false, reduceCtorEq, Nat.reduceEqDiff, List.map_cons, List.map_nil]
  simp only [Tryd.fn46_r19, hb4, AmR, kp, exe, Arg.val, Env.at, lk, putd, ok1, Option.getD_some, if_true, if_false, Nat.reduceEqDiff, resAll, resOf, Option.some.injEq, List.cons.injEq, AV.str.injEq, and_true, List.map_cons, List.map_nil, List.cons_append]
  rfl

end Go.Am
