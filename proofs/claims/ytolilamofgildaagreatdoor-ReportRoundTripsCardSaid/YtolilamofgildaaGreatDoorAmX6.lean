/-
Texts joined, one after the other. Conditions: those that each theorem names.
-/
import Derived.Test.YtolilamofgildaaGreatDoorAmX5
set_option linter.unusedSimpArgs false
set_option linter.unusedVariables false

/- Numbers and outs read back from their lines. Conditions: those that each theorem names. -/
namespace Go.Am

theorem Tryz.rdLoop (s : List UInt8) (hs : s.length ≤ 1000) (hd8 : s.all dig8 = true) (hv : val s ≤ 1099511627776) (H : AH) (K : AX → St → Prop) (ks : List Fr) (L : ACode) (hL : L = .loop (some [0, 4, 19, 20]) Tryz.fn39_l0) :
    ∀ (m i : Nat), m + i = s.length → (∀ a b, Nx Tryz.call K ks [(21, .bool false), (0, .str s), (4, .int .i64 (val s : Nat)), (19, .int .i64 s.length), (20, a), (21, b)] H) →
      W Tryz.call K (.block 0 :: ks) [(0, .str s), (4, .int .i64 (val (s.take i) : Nat)), (19, .int .i64 s.length), (20, .int .i64 i)] H L := by
  intro m
  induction m with
  | zero =>
    intro i hi hd
    refine W_loopN hL ?_
    have hi' : i = s.length := by omega
    subst hi'
    have hlt : ((s.length : Int) < (s.length : Int)) = False := eq_false (by omega)
    rw [List.take_length]
    simp only [Tryz.fn39_l0, Tryz.fn39_r6, hlt, AmR, kp, pushA, exe, Arg.val, Env.at, lk, putd, okM, abin, Option.getD_some, if_true, if_false, reduceCtorEq, Nat.reduceEqDiff, decide_false]
    exact hd _ _
  | succ m ih =>
    intro i hi hd
    refine W_loopN hL ?_
    obtain ⟨c, hc⟩ : ∃ c, s[i]? = some c := ⟨_, List.getElem?_eq_getElem (by omega)⟩
    have hcd : 48 ≤ c.toNat ∧ c.toNat ≤ 57 := by have := List.all_eq_true.1 hd8 c (List.mem_of_getElem? hc); unfold dig8 at this; simpa using this
    have h0 : (0 : Int) ≤ (i : Int) := by omega
    have h1 : ((i : Int) < (s.length : Int)) = True := eq_true (by omega)
    have hw := succ_wrap (i := i) (by omega)
    have n1 : ((c.toNat : Int) < 48) = False := eq_false (by omega)
    have n2 : ((c.toNat : Int) > 57) = False := eq_false (by omega)
    have hst := val_step hc
    have hle := val_take_le s (i + 1)
    rw [hst] at hle
    have w1 : IntKind.i64.wrap (10 * ((val (s.take i) : Nat) : Int)) = ((10 * val (s.take i) : Nat) : Int) := by rw [IntWalk.i64_in _ (by omega)]; omega
    have w2 : IntKind.u8.wrap ((c.toNat : Int) - 48) = ((c.toNat - 48 : Nat) : Int) := by
      have : (c.toNat : Int) - 48 = ((c.toNat - 48 : Nat) : Int) := by omega
      rw [this]
      exact IntWalk.u8_in _ (by omega)
    have w3 : IntKind.i64.wrap (((c.toNat - 48 : Nat) : Int)) = ((c.toNat - 48 : Nat) : Int) := IntWalk.i64_in _ (by omega)
    have w4 : IntKind.i64.wrap (((10 * val (s.take i) : Nat) : Int) + ((c.toNat - 48 : Nat) : Int)) = ((val (s.take (i + 1)) : Nat) : Int) := by rw [IntWalk.i64_in _ (by omega), hst]; omega
    have w5 : (if (1099511627777 : Int) < ((val (s.take (i + 1)) : Nat) : Int) then (1099511627777 : Int) else ((val (s.take (i + 1)) : Nat) : Int)) = ((val (s.take (i + 1)) : Nat) : Int) := if_neg (by rw [hst]; omega)
    simp only [Tryz.fn39_l0, Tryz.fn39_r6, h1, AmR, kp, pushA, exe, Arg.val, Env.at, lk, putd, okM, abin, Option.getD_some, if_true, if_false, reduceCtorEq, Nat.reduceEqDiff, decide_true]
    simp only [Tryz.fn39_r7, AmR, kp, exe, Arg.val, Env.at, lk, putd, ok1, Option.getD_some, if_true, if_false, reduceCtorEq, Nat.reduceEqDiff]
    simp only [Tryz.fn39_r8, h0, Int.toNat_natCast, hc, n1, n2, AmR, kp, pushA, exe, Arg.val, Env.at, lk, putd, ok1, okM, abin, Option.getD_some, if_true, if_false, reduceCtorEq, Nat.reduceEqDiff, decide_false, Bool.false_eq_true, Option.map_some]
    simp only [Tryz.fn39_r10, h0, Int.toNat_natCast, hc, w1, w2, w3, w4, w5, AmR, kp, exe, Arg.val, Env.at, lk, putd, ok1, okM, abin, Option.getD_some, if_true, if_false, reduceCtorEq, Nat.reduceEqDiff, Option.map_some]
    simp only [Tryz.fn39_r11, hw, AmR, kp, exe, Arg.val, Env.at, lk, putd, ok1, okM, abin, Option.getD_some, if_true, if_false, reduceCtorEq, Nat.reduceEqDiff]
    exact ih (i + 1) (by omega) hd

theorem Tryz.rdNumber (n : Nat) (hn : n ≤ 1099511627776) (H : AH) : Tryz.call 39 [.str (Lib.decDigits n)] H = some (.ok (.tup [.int .i64 n, .bool true]), H) := by
  refine ecall_flat 8 [] _ _ (out := [.int .i64 n, .bool true]) rfl rfl rfl (views_flat rfl (views_nil H 8)) rfl ?_
  show W Tryz.call _ _ _ _ _
  obtain ⟨d1, d2, d3, d4⟩ := dec_digits n
  have hl := decDigits_len n 19 (by omega)
  have h48 : (Lib.decDigits n).length > 1 → (Lib.decDigits n).head? ≠ some 48 := fun h => d4 (by
    by_cases h0 : n = 0
    · subst h0; rw [dec_small (by omega)] at h; simp at h
    · omega)
  generalize Lib.decDigits n = s at *
  subst d2
  have e1 : (s = []) = False := eq_false d3
  have e1b : (s == []) = false := by simpa using d3
  simp only [Tryz.fn39, Tryz.fn39_r0, AmR, kp, exe, number, Arg.val, Env.at, lk, putd, ok1, Option.getD_some, if_true, if_false, reduceCtorEq, List.append_nil]
  have go : W Tryz.call (flatK [.tmp 2, .tmp 3] [.int .i64 (val s : Nat), .bool true]) (.block 0 :: [.code (.seq (.seq (.reg Tryz.fn39_r12) (.trim [2, 3])) .ret)]) [(0, .str s), (4, .int .i64 (val (s.take 0) : Nat)), (19, .int .i64 s.length), (20, .int .i64 (0 : Nat))] ⟨[], 8, 8⟩ (.loop (some [0, 4, 19, 20]) Tryz.fn39_l0) := by
    refine Tryz.rdLoop s (by omega) d1 hn _ _ _ _ rfl s.length 0 (by omega) fun a b => ?_
    simp only [Tryz.fn39_r12, AmR, kp, exe, Arg.val, Env.at, lk, putd, ok1, Option.getD_some, if_true, if_false, reduceCtorEq, Nat.reduceEqDiff, resAll, resOf]
  by_cases hone : (s.length : Int) > 1
  · have e2 : ((s.length : Int) > 1) = True := eq_true hone
    obtain ⟨c, hc⟩ : ∃ c, s[0]? = some c := ⟨_, List.getElem?_eq_getElem (by omega)⟩
    have hcne : c ≠ 48 := fun e => h48 (by omega) (by rw [List.head?_eq_getElem?, hc, e])
    have hcz : ((c.toNat : Int) == 48) = false := beq_eq_false_iff_ne.2 fun e => hcne (UInt8.toNat_inj.1 (by have h10 : (48 : UInt8).toNat = 48 := rfl; omega))
    simp only [Tryz.fn39_r1, e1b, e2, hc, hcz, Int.toNat_zero, Int.le_refl, AmR, kp, exe, Arg.val, Env.at, lk, putd, ok1, okM, abin, Option.getD_some, if_true, if_false, reduceCtorEq, Nat.reduceEqDiff, decide_true, Option.map_some]
    simp only [Tryz.fn39_r2, AmR, kp, pushA, exe, Arg.val, Env.at, lk, putd, ok1, Option.getD_some, if_true, if_false, reduceCtorEq, Nat.reduceEqDiff, Bool.false_eq_true]
    simp only [Tryz.fn39_r4, AmR, kp, exe, Arg.val, Env.at, lk, putd, ok1, Option.getD_some, if_true, if_false, reduceCtorEq, Nat.reduceEqDiff]
    simp only [Tryz.fn39_r5, AmR, kp, exe, Arg.val, Env.at, lk, putd, ok1, Option.getD_some, if_true, if_false, reduceCtorEq, Nat.reduceEqDiff]
    exact go
  · have e2 : ((s.length : Int) > 1) = False := eq_false hone
    simp only [Tryz.fn39_r1, e1b, e2, AmR, kp, exe, Arg.val, Env.at, lk, putd, ok1, okM, abin, Option.getD_some, if_true, if_false, reduceCtorEq, Nat.reduceEqDiff, decide_false]
    simp only [Tryz.fn39_r2, AmR, kp, pushA, exe, Arg.val, Env.at, lk, putd, ok1, Option.getD_some, if_true, if_false, reduceCtorEq, Nat.reduceEqDiff, Bool.false_eq_true]
    simp only [Tryz.fn39_r4, AmR, kp, exe, Arg.val, Env.at, lk, putd, ok1, Option.getD_some, if_true, if_false, reduceCtorEq, Nat.reduceEqDiff]
    simp only [Tryz.fn39_r5, AmR, kp, exe, Arg.val, Env.at, lk, putd, ok1, Option.getD_some, if_true, if_false, reduceCtorEq, Nat.reduceEqDiff]
    exact go

end Go.Am

/- An out read back from its line. Conditions: those that each theorem names. -/
namespace Go.Am

/-- The line of an out without its end. -/
def OutR.body (x : OutR) : List UInt8 := Lib.itoa x.node ++ 32 :: (Lib.itoa x.at' ++ 32 :: lineL x.ev)
theorem line_body (x : OutR) : x.line = x.body ++ [10] := by unfold OutR.line OutR.body; simp

theorem splitN_cut3 (s : List UInt8) (h : 2 ≤ s.length) : Lib.splitN s [32] 3 = cutN 2 s := by
  unfold Lib.splitN
  rw [splitK_cut, show min 3 (s.length + 1) - 1 = 2 by omega]

theorem Tryz.splitBody (A B L : List UInt8) (hA : (32 : UInt8) ∉ A) (hB : (32 : UInt8) ∉ B) (hl : (A ++ 32 :: (B ++ 32 :: L)).length ≤ 1000000) (H : AH) :
    Tryz.call 38 [.str (A ++ 32 :: (B ++ 32 :: L)), .str [32], .int .i64 3] H = some (.ok (.sl H.next 0 1 3 (some 3)), H.push 9 false [.str A, .str B, .str L]) := by
  refine ecall_ext 8 [] _ _ (g := gSplitN2 9) rfl _ H ?_
  have h2 : 2 ≤ (A ++ 32 :: (B ++ 32 :: L)).length := by simp; omega
  have hc : cutN 2 (A ++ 32 :: (B ++ 32 :: L)) = [A, B, L] := by
    unfold cutN
    rw [wordO_hit _ hA]
    unfold cutN
    dsimp only
    rw [wordO_hit _ hB]
    rfl
  have hs : splitCells (A ++ 32 :: (B ++ 32 :: L)) [32] 3 = [.str A, .str B, .str L] := by
    unfold splitCells
    rw [splitN_cut3 _ h2, hc]
    rw [show min 3 ((A ++ 32 :: (B ++ 32 :: L)).length + 1) - [A, B, L].length = 0 by simp only [List.length_cons, List.length_nil]; omega]
    simp
  simp only [gSplitN2, Int.reduceToNat, splitN_cut3 _ h2, hc, hs]
  rw [if_pos ⟨by omega, by decide, by decide, by decide, by show 3 ≤ min 3 _; omega⟩]
  rw [show min 3 ((A ++ 32 :: (B ++ 32 :: L)).length + 1) = 3 by omega]
  rfl

theorem Tryz.rdOut (x : OutR) (hx : x.fits = true) (H : AH) : Tryz.call 25 [.str x.body] H = some (.ok (.tup [x.av, .int .i64 0]), H) := by
  refine ecall_flat 8 [] _ _ (out := [x.av, .int .i64 0]) rfl rfl rfl (views_flat rfl (views_nil H 8)) rfl ?_
  show W Tryz.call _ _ _ _ _
  have hfit : ∀ H, Tryz.call 20 [.agg x.cells] H = some (.ok (.bool true), H) := fun H => by have := Tryz.fits x H; rw [hx] at this; exact this
  unfold OutR.fits at hx
  simp only [Bool.and_eq_true, decide_eq_true_eq] at hx
  obtain ⟨⟨h1, h2, h3, h4⟩, hok⟩ := hx
  obtain ⟨nd, hnd⟩ : ∃ n : Nat, x.node = (n : Int) := ⟨x.node.toNat, by omega⟩
  obtain ⟨tm, htm⟩ : ∃ n : Nat, x.at' = (n : Int) := ⟨x.at'.toNat, by omega⟩
  have r1 := Tryz.rdNumber nd (by omega)
  have r2 := Tryz.rdNumber tm (by omega)
  have hll := lineL_len _ hok
  have g1 := decDigits_len nd 19 (by omega)
  have g2 := decDigits_len tm 19 (by omega)
  have hp : ∀ H, Tryz.call 40 [.str (lineL x.ev)] H = some (.ok (pack [x.ev.av, .int .i64 0]), H) := fun H => by
    have := Tryz.parse (lineL x.ev) (by omega) H
    rw [parseR_line hok] at this
    exact this
  have n1 := itoa_not x.node
  have n2 := itoa_not x.at'
  have hb : x.body = Lib.decDigits nd ++ 32 :: (Lib.decDigits tm ++ 32 :: lineL x.ev) := by unfold OutR.body; rw [hnd, htm, itoa_nat, itoa_nat]
  rw [hnd, itoa_nat] at n1
  rw [htm, itoa_nat] at n2
  have hsp := Tryz.splitBody (Lib.decDigits nd) (Lib.decDigits tm) (lineL x.ev) n1 n2 (by simp only [List.length_append, List.length_cons]; omega)
  obtain ⟨n0, t0, e⟩ := x
  simp only at hnd htm
  subst hnd
  subst htm
  rw [hb]
  obtain ⟨k, f, t, v, a, d, ft⟩ := e
  simp only [OutR.cells, Ev.cells, OutR.av, Ev.av, pack] at hfit hp hsp ⊢
  generalize lineL ⟨k, f, t, v, a, d, ft⟩ = ll at *
  generalize Lib.decDigits nd = A at *
  generalize Lib.decDigits tm = B at *
  simp only [Tryz.fn25, Tryz.fn25_r0, AmR, kp, exe, number, Arg.val, Env.at, lk, putd, ok1, AH.push, Option.getD_some, if_true, if_false, reduceCtorEq, Nat.reduceEqDiff, Nat.reduceAdd, List.append_nil]
  simp only [Tryz.fn25_r1, hsp, AmR, kp, exe, Arg.val, Env.at, lk, putd, ok1, AH.push, Option.getD_some, if_true, if_false, reduceCtorEq, Nat.reduceEqDiff, Nat.reduceAdd, List.map_cons, List.map_nil]
  simp only [Tryz.fn25_r2, AmR, kp, pushA, exe, Arg.val, Env.at, lk, putd, ok1, okM, abin, Option.getD_some, if_true, if_false, Nat.reduceEqDiff, decide_false, Option.map_some, Int.reduceLT, Int.cast_ofNat_Int, ↓exe_lenl, lenS_sl]
  simp only [Tryz.fn25_r4, r1, AmR, kp, exe, Arg.val, Env.at, lk, putd, ok1, okM, AH.get, Option.getD_some, if_true, if_false, List.getElem?_cons_zero, List.getElem?_cons_succ, Nat.reduceEqDiff, Nat.reduceAdd, Nat.reduceMul, and_true, List.map_cons, List.map_nil, Int.reduceLT, Int.reduceLE, Int.reduceToNat, Int.cast_ofNat_Int]
  simp only [Tryz.fn25_r5, r2, AmR, kp, exe, Arg.val, Env.at, lk, putd, ok1, okM, AH.get, Option.getD_some, if_true, if_false, List.getElem?_cons_zero, List.getElem?_cons_succ, Nat.reduceEqDiff, Nat.reduceAdd, Nat.reduceMul, and_true, List.map_cons, List.map_nil, Int.reduceLT, Int.reduceLE, Int.reduceToNat, Int.cast_ofNat_Int]
  simp only [Tryz.fn25_r6, hp, AmR, kp, exe, Arg.val, Env.at, lk, putd, AV.cells?, ok1, okM, AH.push, AH.get, Option.getD_some, if_true, if_false, List.getElem?_cons_zero, List.getElem?_cons_succ, Nat.reduceEqDiff, Nat.reduceAdd, Nat.reduceMul, Nat.reduceLT, Bool.false_eq_true, and_true, Nat.reduceLeDiff, List.map_cons, List.map_nil, AH.store, AH.put, rpl, putAt, solid, List.all_cons, List.all_nil, Bool.and_self, List.length_cons, List.length_nil, Option.map_some, Int.reduceLT, Int.reduceLE, Int.reduceToNat, List.set_cons_zero, List.set_cons_succ, Int.cast_ofNat_Int]
  simp only [Tryz.fn25_r7, AmR, Cd_beq, kp, pushA, exe, Arg.val, Env.at, lk, putd, ok1, okM, abin, Option.getD_some, if_true, if_false, Bool.not_true, Nat.reduceEqDiff, Bool.false_eq_true, aun, Int.reduceEq]
  refine ⟨fun h => h.elim, fun _ => ?_⟩
  simp only [Tryz.fn25_r9, AmR, kp, exe, Arg.val, Env.at, lk, putd, AV.cells?, ok1, okM, AH.push, AH.get, Option.getD_some, if_true, if_false, Nat.reduceEqDiff, Nat.reduceAdd, Nat.reduceLT, Bool.false_eq_true, and_true, Nat.reduceLeDiff, List.map_cons, List.map_nil, AH.cellsAt, AH.store, AH.put, rpl, putAt, solid, List.all_cons, List.all_nil, Bool.and_self, List.length_cons, List.length_nil, List.drop_zero, List.take_succ_cons, List.take_zero, Option.map_some, afill, List.set_cons_zero, List.set_cons_succ]
  simp only [Tryz.fn25_r10, hfit, AmR, kp, pushA, exe, Arg.val, Env.at, lk, putd, ok1, okM, AH.get, abin, Option.getD_some, if_true, if_false, Bool.not_true, Nat.reduceEqDiff, Nat.reduceAdd, Bool.false_eq_true, Nat.reduceLeDiff, aun, List.map_cons, List.map_nil, AH.cellsAt, List.length_cons, List.length_nil, List.drop_zero, List.take_succ_cons, List.take_zero, Option.map_some, bne_self_eq_false]
  simp only [Tryz.fn25_r12, AmR, kp, exe, Arg.val, Env.at, lk, putd, AV.cells?, ok1, okM, AH.get, Option.getD_some, if_true, if_false, Nat.reduceEqDiff, Nat.reduceAdd, Nat.reduceLT, Bool.false_eq_true, resAll, resOf, and_true, Nat.reduceLeDiff, AH.cellsAt, AH.store, AH.put, rpl, putAt, solid, List.all_cons, List.all_nil, Bool.and_self, List.length_cons, List.length_nil, List.drop_zero, List.take_succ_cons, List.take_zero, Option.map_some, List.set_cons_zero, List.set_cons_succ]

end Go.Am

/- Import of what was exported. Conditions: those that each theorem names. -/
namespace Go.Am

theorem OutV.backT {lo kp : Nat} {H H1 : AH} {ty z : Nat} {v : AV} {n : Nat} {cells vs : List AV} {R : List AV → AH → Prop} (h : OutV lo H1 ty z v n cells) (hk : kp ≤ lo) (hfl : cells.all flat1 = true) (hv : vs.all flat2 = true) (hN : Names H)
    (hR : ∀ u H', SliceV H' z u n cells → Grow H H' → Names H' → R (u :: vs) H') : Back kp H R (v :: vs) H1 := by
  obtain ⟨hz, h1, h2, h3⟩ := h
  rcases h3 with ⟨rfl, e1, e2⟩ | ⟨q, c, h4, rfl, h6⟩
  · refine back_flat (by rw [List.all_cons, hv]; rfl) (hR .nils H ?_ (Grow.refl _) hN)
    rw [e1, e2]; exact .nil
  · obtain ⟨_, hl, hc, hf, hn, wh, s0, hq⟩ := h6
    refine back_slice (by omega) hq rfl hfl hv (hR _ _ ?_ (Grow.take1 _ _) ?_)
    · have := SliceV.sl (H := H.take1 ⟨cells, false, ty, wh, s0⟩) (z := z) (i := H.next) (o := 0) (n := n) (c := c) (get_take1 _ _) (by show 0 + n * z ≤ cells.length; omega)
      rw [List.drop_zero, List.take_of_length_le (by show cells.length ≤ _; omega)] at this
      exact this
    · intro x hx
      show x.1 < H.next + 1
      rcases List.mem_cons.1 hx with rfl | hx
      · exact Nat.lt_succ_self _
      · have := hN x hx; omega

theorem hexB_ge {n : Nat} (h : n < 16) : 32 ≤ (hexB n).toNat := by
  have : ∀ k : Fin 16, 32 ≤ (hexB k.val).toNat := by decide
  exact this ⟨n, h⟩
theorem quote1_ge (c : UInt8) : ∀ b ∈ quote1 c, 32 ≤ b.toNat := by
  have hc := c.toNat_lt
  intro b hb
  unfold quote1 at hb
  have h92 : (92 : UInt8).toNat = 92 := rfl
  have h34 : (34 : UInt8).toNat = 34 := rfl
  have h110 : (110 : UInt8).toNat = 110 := rfl
  have h120 : (120 : UInt8).toNat = 120 := rfl
  split at hb
  · rename_i hp
    unfold plainB at hp
    simp only [decide_eq_true_eq] at hp
    rw [List.mem_singleton.1 hb]
    omega
  · split at hb
    · rename_i h
      simp only [List.mem_cons, List.not_mem_nil, or_false] at hb
      rcases hb with rfl | rfl
      · omega
      · rcases h with rfl | rfl <;> omega
    · split at hb
      · simp only [List.mem_cons, List.not_mem_nil, or_false] at hb
        rcases hb with rfl | rfl <;> omega
      · simp only [List.mem_cons, List.not_mem_nil, or_false] at hb
        rcases hb with rfl | rfl | rfl | rfl
        · omega
        · omega
        · exact hexB_ge (by omega)
        · exact hexB_ge (by omega)
theorem quoteL_ge (d : List UInt8) : ∀ b ∈ quoteL d, 32 ≤ b.toNat := by
  intro b hb
  have h34 : (34 : UInt8).toNat = 34 := rfl
  unfold quoteL at hb
  simp only [List.mem_cons, List.mem_append, List.not_mem_nil, or_false, List.mem_flatMap] at hb
  rcases hb with rfl | ⟨c, _, hc⟩ | rfl
  · omega
  · exact quote1_ge c b hc
  · omega
theorem digits_ge {d : List UInt8} (h : d.all dig8 = true) : ∀ b ∈ d, 32 ≤ b.toNat := by
  intro b hb
  have := List.all_eq_true.1 h b hb
  unfold dig8 at this
  simp only [decide_eq_true_eq] at this
  omega
theorem itoa_ge (n : Int) : ∀ b ∈ Lib.itoa n, 32 ≤ b.toNat := by
  unfold Lib.itoa
  split
  · intro b hb
    simp only [List.mem_cons] at hb
    rcases hb with rfl | hb
    · decide
    · exact digits_ge (dec_digits n.natAbs).1 b hb
  · exact digits_ge (dec_digits n.toNat).1
theorem kindName_ge (k : Int) : ∀ b ∈ kindName k, 32 ≤ b.toNat := by
  have : ∀ n : Fin 8, ∀ b ∈ kindNames.getD n.val [], 32 ≤ b.toNat := by decide
  unfold kindName
  by_cases h : (k - 1).toNat < 8
  · exact this ⟨_, h⟩
  · rw [List.getD_eq_getElem?_getD, List.getElem?_eq_none (by show 8 ≤ _; omega)]; simp
theorem lineL_ge (x : Ev) : ∀ b ∈ lineL x, 32 ≤ b.toNat := by
  intro b hb
  have h32 : (32 : UInt8).toNat = 32 := rfl
  rw [lineL_eq] at hb
  simp only [List.mem_append, List.mem_singleton] at hb
  rcases hb with ((((((((((((h | h) | h) | h) | h) | h) | h) | h) | h) | h) | h) | h) | h)
  all_goals first
    | (rw [h]; omega)
    | exact kindName_ge _ b h
    | exact itoa_ge _ b h
    | exact quoteL_ge _ b h
theorem body_not (x : OutR) : (10 : UInt8) ∉ x.body := by
  have : ∀ b ∈ x.body, 32 ≤ b.toNat := by
    intro b hb
    have h32 : (32 : UInt8).toNat = 32 := rfl
    unfold OutR.body at hb
    simp only [List.mem_append, List.mem_cons] at hb
    rcases hb with h | rfl | h | rfl | h
    · exact itoa_ge _ b h
    · omega
    · exact itoa_ge _ b h
    · omega
    · exact lineL_ge _ b h
  intro h
  exact absurd (this 10 h) (by decide)

end Go.Am

/- Import of what was exported: the loop. Conditions: those that each theorem names. -/
namespace Go.Am

theorem Tryz.impLoop (l : List OutR) (hfits : ∀ x ∈ l, x.fits = true) (hll : l.length ≤ 1000000) (H0 : AH) (hfl0 : H0.floor ≤ H0.next) (K : AX → St → Prop) (ks : List Fr) (L : ACode) (hL : L = .loop (some [0, 5, 6]) Tryz.fn11_l0) :
    ∀ (m i : Nat) (v : AV) (H : AH), m + i = l.length → OutV H0.next H 42 9 v i (rowsOf OutR.cells (l.take i)) → Kept H0.next H0 H → Names H → (expT (l.drop i)).length ≤ 1048576 →
      (∀ H' v' a b c, OutV H0.next H' 42 9 v' l.length (rowsOf OutR.cells l) → Nx Tryz.call K ks [(14, .bool false), (0, a), (5, v'), (6, b), (14, c)] H') →
      W Tryz.call K (.block 0 :: ks) [(0, .str (expT (l.drop i))), (5, v), (6, .int .i64 ((i + 1 : Nat) : Int))] H L := by
  intro m
  induction m with
  | zero =>
    intro i v H hi ho hK hN hlen hd
    refine W_loopN hL ?_
    have hi' : i = l.length := by omega
    subst hi'
    rw [List.take_length] at ho
    have e0 : expT (l.drop l.length) = [] := by rw [List.drop_length]; rfl
    rw [e0]
    simp only [Tryz.fn11_l0, Tryz.fn11_r5, AmR, Cd_nbeq, kp, pushA, exe, Arg.val, Env.at, lk, putd, ok1, okM, abin, Option.getD_some, if_true, if_false, reduceCtorEq, Nat.reduceEqDiff]
    exact ⟨fun _ => hd H v _ _ _ ho, fun h => absurd trivial h⟩
  | succ m ih =>
    intro i v H hi ho hK hN hlen hd
    refine W_loopN hL ?_
    obtain ⟨x, hx⟩ : ∃ x, l[i]? = some x := ⟨_, List.getElem?_eq_getElem (by omega)⟩
    have hxf := hfits x (List.mem_of_getElem? hx)
    have et : expT (l.drop i) = x.body ++ 10 :: expT (l.drop (i + 1)) := by rw [drop_cons' hx]; simp [expT, line_body]
    have htk : rowsOf OutR.cells (l.take (i + 1)) = rowsOf OutR.cells (l.take i) ++ x.cells := by rw [List.take_add_one, hx]; simp [rowsOf]
    have hne : (expT (l.drop i) = []) = False := eq_false (by rw [et]; simp)
    rw [et] at hlen hne ⊢
    have next := ih (i + 1)
    generalize expT (l.drop (i + 1)) = rest at *
    have hix := Tryz.indexByte (x.body ++ 10 :: rest)
    rw [indexByte_at (body_not x)] at hix
    have hbl : x.body.length + 1 + rest.length ≤ 1048576 := by simp at hlen; omega
    have hneg : ((x.body.length : Int) < 0) = False := eq_false (by omega)
    have hb1 : bnds (x.body ++ 10 :: rest).length (x.body ++ 10 :: rest).length none (some (.int .i64 (x.body.length : Int))) = some (0, x.body.length) := by
      have : (0 : Int) ≤ (x.body.length : Int) ∧ (x.body.length : Int) ≤ ((x.body ++ 10 :: rest).length : Int) := by simp only [List.length_append, List.length_cons]; omega
      simp only [bnds, bnd, this, and_self, if_true, Int.toNat_natCast]
    have ht1 : ((x.body ++ 10 :: rest).drop 0).take (x.body.length - 0) = x.body := by simp
    have hw := succ_wrap (i := x.body.length) (by omega)
    have hb2 := bnds_lo (n := (x.body ++ 10 :: rest).length) (a := x.body.length + 1) (by simp only [List.length_append, List.length_cons]; omega)
    have ht2 : ((x.body ++ 10 :: rest).drop (x.body.length + 1)).take ((x.body ++ 10 :: rest).length - (x.body.length + 1)) = rest := by
      rw [List.take_of_length_le (by simp; omega), drop_hit]
    have hfl : H.floor ≤ H.next := by have := hK.1; have := hK.2.1; omega
    have st := store_push H 42 true [.int .i64 0, .int .i64 0, .int .i64 0, .int .i64 0, .int .i64 0, .int .i64 0, .int .i64 0, .str [], .int .i64 0] x.cells hfl rfl x.sol
    have hro : ∀ H, Tryz.call 25 [.str x.body] H = some (.ok (.tup [.agg x.cells, .int .i64 0]), H) := fun H => Tryz.rdOut x hxf H
    have l9 := x.cells_len
    have ho1 := ho.push 42 true x.cells
    have hK1 : Kept H0.next H0 (H.push 42 true x.cells) := hK.trans (Kept.push _ _ hK.2.1 _ _ _)
    have hN1 := hN.push 42 true x.cells
    obtain ⟨v', H2, a1, a2, a3, a4, a5⟩ := OutV.snoc ho1 80 (new := x.cells) rfl (by omega)
    rw [← htk] at a2
    have gn : (H.push 42 true x.cells).cellsAt H.next 0 9 = some x.cells := cellsAt_new _ _ _ _ rfl
    generalize hH1 : H.push 42 true x.cells = H1 at *
    have hn2 : Names H2 := aapp_names (hN1.push _ _ _) a1
    have cc : (H1.push 42 true x.cells).cellsAt H1.next 0 9 = some x.cells := cellsAt_new _ _ _ _ rfl
    have hNg : ∀ nx fl q o n, (AH.mk H1.blks nx fl).cellsAt q o n = H1.cellsAt q o n := fun _ _ _ _ _ => rfl
    have hnew := hN1.new
    have hwl := succ_wrap (i := i + 1) (by omega)
    have hsol := x.sol
    have hput : putAt [.int .i64 0, .int .i64 0, .int .i64 0, .int .i64 0, .int .i64 0, .int .i64 0, .int .i64 0, .str [], .int .i64 0] 0 x.cells = x.cells := rfl
    simp only [Tryz.fn11_l0, Tryz.fn11_r5, hne, false_implies, not_false_eq_true, true_implies, true_and, AmR, Cd_nbeq, kp, pushA, exe, Arg.val, Env.at, lk, putd, ok1, okM, abin, Option.getD_some, if_true, if_false, reduceCtorEq, Nat.reduceEqDiff, true_and]
    simp only [Tryz.fn11_r6, hix, AmR, kp, exe, Arg.val, Env.at, lk, putd, ok1, Option.getD_some, if_true, if_false, reduceCtorEq, Nat.reduceEqDiff, List.map_cons, List.map_nil]
    simp only [Tryz.fn11_r7, hneg, AmR, kp, pushA, exe, Arg.val, Env.at, lk, putd, ok1, okM, abin, Option.getD_some, if_true, if_false, reduceCtorEq, Nat.reduceEqDiff, decide_false]
    simp only [Tryz.fn11_r9, hb1, ht1, hro, l9, st, AmR, kp, exe, Arg.val, Env.at, lk, putd, AV.cells?, ok1, okM, Option.getD_some, if_true, if_false, List.getElem?_cons_zero, List.getElem?_cons_succ, reduceCtorEq, Nat.reduceEqDiff, List.map_cons, List.map_nil, Option.map_some, Option.map_none]
    simp only [Tryz.fn11_r10, AmR, kp, pushA, exe, Arg.val, Env.at, lk, putd, ok1, okM, abin, Option.getD_some, if_true, if_false, reduceCtorEq, Nat.reduceEqDiff, bne_self_eq_false]
    refine W_drawn' (by kernel_rfl) ?_
    simp only [Tryz.fn11_r12, Tryz.fn11_r12a, gn, cc, takeFrom, l9, hput, hsol, a1, hw, hb2, ht2, AmR, kp, exe, Arg.val, Env.at, lk, putd, AV.cells?, ok1, okM, abin, Option.getD_some, if_true, if_false, reduceCtorEq, Nat.reduceEqDiff, Nat.reduceAdd, Nat.reduceMul, Bool.true_eq_false, and_true, true_and, List.nil_append, List.append_nil, visH, List.flatMap_nil, Nat.reduceLeDiff, List.map_cons, List.map_nil, List.length_cons, List.length_nil, Option.map_some, Option.map_none, afill, rep, List.reduceReplicate, List.flatten_cons, List.flatten_nil]
    simp only [Tryz.fn11_r13, hwl, AmR, kp, exe, Arg.val, Env.at, lk, putd, ok1, okM, abin, Option.getD_some, if_true, if_false, reduceCtorEq, Nat.reduceEqDiff]
    exact next v' H2 (by omega) a2 (hK1.trans ⟨a3, a4, a5⟩) hn2 (by omega) hd

theorem Tryz.import (l : List OutR) (hE : exE l = 0) (hll : l.length ≤ 1000000) (H : AH) (hN : Names H) :
    ∃ u H', Tryz.call 11 [.str (expT l)] H = some (.ok (.tup [u, .int .i64 0, .int .i64 0]), H') ∧ SliceV H' 9 u l.length (rowsOf OutR.cells l) ∧ Grow H H' ∧ Names H' := by
  have hfits : l.all OutR.fits = true ∧ (expT l).length ≤ 1048576 := by
    unfold exE at hE
    split at hE
    · split at hE
      · exact ⟨by assumption, by assumption⟩
      · cases hE
    · cases hE
  obtain ⟨hf, hlen⟩ := hfits
  have hbig : (((expT l).length : Int) > 1048576) = False := eq_false (by omega)
  obtain ⟨vs, H', ⟨u, rfl, h1, h2, h3⟩, hc⟩ := ecall_vE 8 [] (lk Tryz.ext) (lk Tryz.tab) (f := 11) (fn := Tryz.fn11) (args := [.str (expT l)]) (H := H) (R := fun vs H' => ∃ u, vs = [u, .int .i64 0, .int .i64 0] ∧ SliceV H' 9 u l.length (rowsOf OutR.cells l) ∧ Grow H H' ∧ Names H') rfl rfl rfl (views_flat rfl (views_nil H 8)) (by
    show W Tryz.call _ _ _ _ _
    simp only [Tryz.fn11, Tryz.fn11_r0, AmR, kp, exe, number, Arg.val, Env.at, lk, putd, ok1, Option.getD_some, if_true, if_false, reduceCtorEq, List.append_nil]
    simp only [Tryz.fn11_r1, hbig, AmR, kp, pushA, exe, Arg.val, Env.at, lk, putd, ok1, okM, abin, Option.getD_some, if_true, if_false, reduceCtorEq, Nat.reduceEqDiff, decide_false]
    simp only [Tryz.fn11_r3, AmR, kp, exe, Arg.val, Env.at, lk, putd, ok1, Option.getD_some, if_true, if_false, reduceCtorEq, Nat.reduceEqDiff]
    simp only [Tryz.fn11_r4, AmR, kp, exe, Arg.val, Env.at, lk, putd, ok1, Option.getD_some, if_true, if_false, reduceCtorEq, Nat.reduceEqDiff]
    have ho : OutV 8 ⟨[], 8, 8⟩ 42 9 .nils 0 (rowsOf OutR.cells (l.take 0)) := ⟨by omega, Nat.le_refl _, Nat.le_refl _, .inl ⟨rfl, rfl, rfl⟩⟩
    refine Tryz.impLoop l (List.all_eq_true.1 hf) hll ⟨[], 8, 8⟩ (Nat.le_refl _) _ _ _ rfl l.length 0 .nils _ (by omega) ho (Kept.refl _ _) (fun x hx => by cases hx) (by rw [List.drop_zero]; exact hlen) fun H1 v' a b c k1 => ?_
    simp only [Tryz.fn11_r14, endK_ret, AmR, kp, exe, Arg.val, Env.at, lk, putd, ok1, Option.getD_some, if_true, if_false, reduceCtorEq, Nat.reduceEqDiff, resAll, resOf, Option.some.injEq, exists_eq_left']
    exact k1.backT (Nat.le_refl _) (outs_flat l) rfl hN fun u H' g1 g2 g3 => ⟨u, rfl, g1, g2, g3⟩)
  exact ⟨u, H', hc, h1, h2, h3⟩

end Go.Am

/- The same outs; the law of round trips. Conditions: those that each theorem names. -/
namespace Go.Am

theorem Tryz.sameOLoop (l : List OutR) (hl : l.length ≤ 1000000) (u v : AV) (H : AH) (hN : Names H) (hu : SliceV H 9 u l.length (rowsOf OutR.cells l)) (hv : SliceV H 9 v l.length (rowsOf OutR.cells l)) (K : AX → St → Prop) (ks : List Fr) (L : ACode) (hL : L = .loop (some [0, 1, 5]) Tryz.fn12_l0) :
    ∀ (m i : Nat), m + i = l.length → (∀ a b, Nx Tryz.call K ks [(14, .bool false), (0, u), (1, v), (5, a), (14, b)] H) →
      W Tryz.call K (.block 0 :: ks) [(0, u), (1, v), (5, .int .i64 i)] H L := by
  have hul := hu.lenS
  intro m
  induction m with
  | zero =>
    intro i hi hd
    refine W_loopN hL ?_
    have hi' : i = l.length := by omega
    subst hi'
    have hlt : ((l.length : Int) < (l.length : Int)) = False := eq_false (by omega)
    simp only [Tryz.fn12_l0, Tryz.fn12_r4, hul, hlt, AmR, kp, pushA, exe, Arg.val, Env.at, lk, putd, ok1, okM, abin, Option.getD_some, if_true, if_false, reduceCtorEq, Nat.reduceEqDiff, decide_false, Option.map_some, ↓exe_lenl]
    exact hd _ _
  | succ m ih =>
    intro i hi hd
    refine W_loopN hL ?_
    obtain ⟨x, hx⟩ : ∃ x, l[i]? = some x := ⟨_, List.getElem?_eq_getElem (by omega)⟩
    have h0 : (0 : Int) ≤ (i : Int) := by omega
    have h1 : ((i : Int) < (l.length : Int)) = True := eq_true (by omega)
    have hw := succ_wrap (i := i) (by omega)
    have heq : aeqs [(0, none, ETy.int), (1, none, ETy.int), (2, none, ETy.int), (3, none, ETy.int), (4, none, ETy.int), (5, none, ETy.int), (6, none, ETy.int), (7, none, ETy.str), (8, none, ETy.int)] x.cells x.cells = some true := by simp [aeqs, aeq, OutR.cells, Ev.cells]
    have hNg : ∀ nx fl q o n, (AH.mk H.blks nx fl).cellsAt q o n = H.cellsAt q o n := fun _ _ _ _ _ => rfl
    have hnew := hN.new
    rcases hu.cases with ⟨rfl, h, _⟩ | ⟨rfl, h, _⟩ | ⟨q1, o1, cc1, bm1, rfl, hbm1, hlm1, hcm1⟩
    · omega
    · omega
    rcases hv.cases with ⟨rfl, h, _⟩ | ⟨rfl, h, _⟩ | ⟨q2, o2, cc2, bm2, rfl, hbm2, hlm2, hcm2⟩
    · omega
    · omega
    have g1 : H.cellsAt q1 (o1 + i * 9) 9 = some x.cells := cellsAt_rowO OutR.cells_len hbm1 hlm1 hcm1 hx
    have g2 : H.cellsAt q2 (o2 + i * 9) 9 = some x.cells := cellsAt_rowO OutR.cells_len hbm2 hlm2 hcm2 hx
    simp only [Tryz.fn12_l0, Tryz.fn12_r4, hul, h1, AmR, kp, pushA, exe, Arg.val, Env.at, lk, putd, ok1, okM, abin, Option.getD_some, if_true, if_false, reduceCtorEq, Nat.reduceEqDiff, decide_true, Option.map_some, ↓exe_lenl]
    refine W_drawn' (by kernel_rfl) ?_
    simp only [Tryz.fn12_r5, Tryz.fn12_r5a, hNg, g1, g2, h0, h1, heq, hnew, Int.toNat_natCast, and_self, AmR, kp, pushA, exe, Arg.val, Env.at, lk, putd, ok1, okM, Option.getD_some, if_true, if_false, reduceCtorEq, Nat.reduceEqDiff, Nat.reduceAdd, true_and, List.nil_append, visH, List.filter_nil, List.flatMap_nil, List.contains_cons, List.contains_nil, Bool.or_false, Option.map_some, aeqv, bne_self_eq_false]
    simp only [Tryz.fn12_r7, hw, AmR, kp, exe, Arg.val, Env.at, lk, putd, ok1, okM, abin, Option.getD_some, if_true, if_false, reduceCtorEq, Nat.reduceEqDiff]
    exact ih (i + 1) (by omega) hd

theorem Tryz.sameOuts (l : List OutR) (hl : l.length ≤ 1000000) (u v : AV) (H : AH) (hu : SliceV H 9 u l.length (rowsOf OutR.cells l)) (hv : SliceV H 9 v l.length (rowsOf OutR.cells l)) :
    Tryz.call 12 [u, v] H = some (.ok (.bool true), H) := by
  obtain ⟨w1, w2, bs, kq, hvw, s1, s2, hN, _, _, _⟩ := views_two hu hv (outs_flat l) (outs_flat l) 8 (rest := []) (us := []) fun k => views_nil H k
  refine ecall_flat 8 [] _ _ (out := [.bool true]) rfl rfl rfl hvw rfl ?_
  show W Tryz.call _ _ _ _ _
  generalize hH : (⟨bs ++ [], kq, kq⟩ : AH) = H0 at *
  have l1 := s1.lenS
  have l2 := s2.lenS
  simp only [Tryz.fn12, Tryz.fn12_r0, AmR, kp, exe, number, Arg.val, Env.at, lk, putd, ok1, Option.getD_some, if_true, if_false, reduceCtorEq, Nat.reduceEqDiff, Nat.reduceAdd]
  simp only [Tryz.fn12_r1, l1, l2, bne_self_eq_false, AmR, kp, pushA, exe, Arg.val, Env.at, lk, putd, ok1, okM, abin, Option.getD_some, if_true, if_false, reduceCtorEq, Nat.reduceEqDiff, Option.map_some, bne_self_eq_false, ↓exe_lenl]
  simp only [Tryz.fn12_r3, AmR, kp, exe, Arg.val, Env.at, lk, putd, ok1, Option.getD_some, if_true, if_false, reduceCtorEq, Nat.reduceEqDiff]
  refine Tryz.sameOLoop l hl w1 w2 H0 hN s1 s2 _ _ _ rfl l.length 0 (by omega) fun a b => ?_
  simp only [Tryz.fn12_r8, AmR, kp, exe, Arg.val, Env.at, lk, putd, ok1, Option.getD_some, if_true, if_false, reduceCtorEq, Nat.reduceEqDiff, resAll, resOf]

theorem Tryz.lawRoundTrips (H : AH) (hNm : Names H) (hfl : H.floor ≤ H.next) (v : AV) (rows : List (List (List UInt8))) (hv : TabV H.next H v rows) (w : AV) (l : List OutR) (hw : SliceV H 9 w l.length (rowsOf OutR.cells l) ∧ ∀ i o z m c, w = .sl i o z m c → i < H.next) : ∃ H', Tryz.call 3 [v, w] H = some (.ok (.bool true), H') := by
  obtain ⟨hw, hwn⟩ := hw
  have hlv := Tryz.lives H
  have hsm := Tryz.small H.next H v rows hv
  have hsh := Tryz.short w l H hw
  obtain ⟨vs, H', rfl, hc⟩ := ecall_E 8 [] (lk Tryz.ext) (lk Tryz.tab) (f := 3) (fn := Tryz.fn3) (args := [v, w]) (H := H) (R := fun vs H' => vs = [.bool true]) rfl rfl rfl (by
    show W Tryz.call _ _ _ _ _
    simp only [Tryz.fn3, Tryz.fn3_r0, AmR, kp, exe, number, Arg.val, Env.at, lk, putd, ok1, Option.getD_some, if_true, if_false, reduceCtorEq, Nat.reduceEqDiff, Nat.reduceAdd]
    simp only [Tryz.fn3_r1, hlv, AmR, kp, pushA, exe, Arg.val, Env.at, lk, putd, okM, Option.getD_some, if_true, if_false, Bool.not_true, reduceCtorEq, Nat.reduceEqDiff, aun, List.map_nil]
    cases hb : smallB rows with
    | false =>
      rw [hb] at hsm
      simp only [Tryz.fn3_r3, hsm, AmR, kp, pushA, exe, Arg.val, Env.at, lk, putd, ok1, okM, Option.getD_some, if_true, if_false, Bool.not_false, reduceCtorEq, Nat.reduceEqDiff, aun, List.map_cons, List.map_nil]
      simp only [Tryz.fn3_r4, endK_ret, AmR, kp, exe, Arg.val, Env.at, lk, putd, ok1, Option.getD_some, if_true, if_false, reduceCtorEq, Nat.reduceEqDiff, resAll, resOf, Option.some.injEq, exists_eq_left']
    | true =>
      rw [hb] at hsm
      cases hb2 : shortB l with
      | false =>
        rw [hb2] at hsh
        simp only [Tryz.fn3_r3, hsm, hsh, AmR, kp, pushA, exe, Arg.val, Env.at, lk, putd, ok1, okM, Option.getD_some, if_true, if_false, Bool.not_true, Bool.not_false, reduceCtorEq, Nat.reduceEqDiff, Bool.false_eq_true, aun, List.map_cons, List.map_nil]
        simp only [Tryz.fn3_r4, endK_ret, AmR, kp, exe, Arg.val, Env.at, lk, putd, ok1, Option.getD_some, if_true, if_false, reduceCtorEq, Nat.reduceEqDiff, resAll, resOf, Option.some.injEq, exists_eq_left']
      | true =>
        rw [hb2] at hsh
        have hl : l.length ≤ 300 := by
          unfold shortB at hb2
          simp only [Bool.and_eq_true, decide_eq_true_eq] at hb2
          exact hb2.1.1
        obtain ⟨h1, h2⟩ := smallB_le hb
        have hs : ∀ r ∈ rows, r.length ≤ 4000000 ∧ ∀ s ∈ r, s.length ≤ 4000000 := fun r hr => ⟨by have := (h2 r hr).1; omega, fun s hs => by have := (h2 r hr).2 s hs; omega⟩
        obtain ⟨H1, a1, a2, a3⟩ := Tryz.table H hNm hfl v rows hv hs (by omega)
        have hv1 : TabV H1.next H1 v rows := hv.old a2.2.1 a2.2.2
        have hw1 : SliceV H1 9 w l.length (rowsOf OutR.cells l) := hw.old hwn a2.2.2
        simp only [Tryz.fn3_r3, hsm, hsh, AmR, kp, pushA, exe, Arg.val, Env.at, lk, putd, ok1, okM, Option.getD_some, if_true, if_false, Bool.not_true, reduceCtorEq, Nat.reduceEqDiff, Bool.false_eq_true, aun, List.map_cons, List.map_nil]
        simp only [Tryz.fn3_r5, a1, AmR, kp, exe, Arg.val, Env.at, lk, putd, ok1, okM, Option.getD_some, if_true, if_false, List.getElem?_cons_zero, List.getElem?_cons_succ, reduceCtorEq, Nat.reduceEqDiff, List.map_cons, List.map_nil]
        have hwn1 : ∀ i o z m c, w = .sl i o z m c → i < H1.next := fun i o z m c e => Nat.lt_of_lt_of_le (hwn i o z m c e) a2.2.1
        by_cases hok : tableE rows = 0
        · have hTS : tableS rows = tableT rows := by unfold tableS; rw [if_pos hok]
          have htl : (tableT rows).length ≤ 1048576 := by
            unfold tableE at hok
            split at hok
            · split at hok
              · assumption
              · cases hok
            · cases hok
          rw [hok, hTS]
          obtain ⟨t1, t2⟩ := rows_table hok
          obtain ⟨v', H2, b1, b2, b3, b4⟩ := Tryz.rowsText (tableT rows) (by omega) H1 a3 (by have h1 := a2.1; have h2 := a2.2.1; omega)
          rw [t1] at b1
          rw [t2] at b2
          have hv2 : TabV H2.next H2 v rows := hv1.old b3.2.1 b3.2.2
          have hw2 : SliceV H2 9 w l.length (rowsOf OutR.cells l) := hw1.old hwn1 b3.2.2
          have hwn2 : ∀ i o z m c, w = .sl i o z m c → i < H2.next := fun i o z m c e => Nat.lt_of_lt_of_le (hwn1 i o z m c e) b3.2.1
          have c1 := Tryz.sameRows H2.next H2 b4 v' v rows b2 hv2 (by omega) fun r hr => (hs r hr).1
          simp only [Tryz.fn3_r6, beq_self_eq_true, AmR, kp, pushA, exe, Arg.val, Env.at, lk, putd, ok1, okM, abin, Option.getD_some, if_true, if_false, reduceCtorEq, Nat.reduceEqDiff]
          simp only [Tryz.fn3_r7, b1, AmR, kp, exe, Arg.val, Env.at, lk, putd, ok1, okM, Option.getD_some, if_true, if_false, List.getElem?_cons_zero, List.getElem?_cons_succ, reduceCtorEq, Nat.reduceEqDiff, List.map_cons, List.map_nil]
          simp only [Tryz.fn3_r8, c1, bne_self_eq_false, AmR, kp, pushA, exe, Arg.val, Env.at, lk, putd, ok1, okM, abin, Option.getD_some, if_true, if_false, Bool.not_true, reduceCtorEq, Nat.reduceEqDiff, Bool.false_eq_true, aun, List.map_cons, List.map_nil, bne_self_eq_false]
          have x1 := Tryz.export w l (by omega) H2 hw2
          by_cases hok2 : exE l = 0
          · have hS2 : exS l = expT l := by unfold exS; rw [if_pos hok2]
            rw [hok2, hS2] at x1
            obtain ⟨u, H5, i1, i2, i3, i4⟩ := Tryz.import l hok2 (by omega) H2 b4
            have hw5 := hw2.grow i3 hwn2
            have so := Tryz.sameOuts l (by omega) u w H5 i2 hw5
            simp only [Tryz.fn3_r10, x1, AmR, kp, exe, Arg.val, Env.at, lk, putd, ok1, okM, Option.getD_some, if_true, if_false, List.getElem?_cons_zero, List.getElem?_cons_succ, Nat.reduceEqDiff, List.map_cons, List.map_nil]
            simp only [Tryz.fn3_r11, beq_self_eq_true, AmR, kp, pushA, exe, Arg.val, Env.at, lk, putd, ok1, okM, abin, Option.getD_some, if_true, if_false, Nat.reduceEqDiff]
            simp only [Tryz.fn3_r12, i1, AmR, kp, exe, Arg.val, Env.at, lk, putd, ok1, okM, Option.getD_some, if_true, if_false, List.getElem?_cons_zero, List.getElem?_cons_succ, Nat.reduceEqDiff, List.map_cons, List.map_nil]
            simp only [Tryz.fn3_r13, so, bne_self_eq_false, AmR, kp, exe, Arg.val, Env.at, lk, putd, ok1, okM, abin, Option.getD_some, if_true, if_false, Nat.reduceEqDiff, Bool.false_eq_true, List.map_cons, List.map_nil, bne_self_eq_false]
            simp only [Tryz.fn3_r14, AmR, kp, pushA, exe, Arg.val, Env.at, lk, putd, ok1, okM, Option.getD_some, if_true, if_false, Bool.not_true, Nat.reduceEqDiff, Bool.false_eq_true, aun]
            simp only [Tryz.fn3_r16, beq_self_eq_true, endK_ret, AmR, kp, exe, Arg.val, Env.at, lk, putd, ok1, okM, abin, Option.getD_some, if_true, if_false, Nat.reduceEqDiff, resAll, resOf, Option.some.injEq, exists_eq_left']
          · have hS2 : exS l = [] := by unfold exS; rw [if_neg hok2]
            have f2 : (exE l = 0) = False := eq_false hok2
            have f3 : (exE l == 0) = false := by simpa using hok2
            rw [hS2] at x1
            simp only [Tryz.fn3_r10, x1, AmR, kp, exe, Arg.val, Env.at, lk, putd, ok1, okM, Option.getD_some, if_true, if_false, List.getElem?_cons_zero, List.getElem?_cons_succ, Nat.reduceEqDiff, List.map_cons, List.map_nil]
            simp only [Tryz.fn3_r11, f3, AmR, kp, pushA, exe, Arg.val, Env.at, lk, putd, ok1, okM, abin, Option.getD_some, if_true, if_false, Nat.reduceEqDiff]
            simp only [Tryz.fn3_r16, f3, beq_self_eq_true, endK_ret, AmR, kp, exe, Arg.val, Env.at, lk, putd, ok1, okM, abin, Option.getD_some, if_true, if_false, Nat.reduceEqDiff, Bool.false_eq_true, resAll, resOf, Option.some.injEq, exists_eq_left']
        · have f1 : (tableE rows = 0) = False := eq_false hok
          have f0 : (tableE rows == 0) = false := by simpa using hok
          simp only [Tryz.fn3_r6, f0, AmR, kp, pushA, exe, Arg.val, Env.at, lk, putd, ok1, okM, abin, Option.getD_some, if_true, if_false, reduceCtorEq, Nat.reduceEqDiff]
          have x1 := Tryz.export w l (by omega) H1 hw1
          by_cases hok2 : exE l = 0
          · have hS2 : exS l = expT l := by unfold exS; rw [if_pos hok2]
            rw [hok2, hS2] at x1
            obtain ⟨u, H5, i1, i2, i3, i4⟩ := Tryz.import l hok2 (by omega) H1 a3
            have hw5 := hw1.grow i3 hwn1
            have so := Tryz.sameOuts l (by omega) u w H5 i2 hw5
            simp only [Tryz.fn3_r10, x1, AmR, kp, exe, Arg.val, Env.at, lk, putd, ok1, okM, Option.getD_some, if_true, if_false, List.getElem?_cons_zero, List.getElem?_cons_succ, reduceCtorEq, Nat.reduceEqDiff, List.map_cons, List.map_nil]
            simp only [Tryz.fn3_r11, beq_self_eq_true, AmR, kp, pushA, exe, Arg.val, Env.at, lk, putd, ok1, okM, abin, Option.getD_some, if_true, if_false, Nat.reduceEqDiff]
            simp only [Tryz.fn3_r12, i1, AmR, kp, exe, Arg.val, Env.at, lk, putd, ok1, okM, Option.getD_some, if_true, if_false, List.getElem?_cons_zero, List.getElem?_cons_succ, Nat.reduceEqDiff, List.map_cons, List.map_nil]
            simp only [Tryz.fn3_r13, so, bne_self_eq_false, AmR, kp, exe, Arg.val, Env.at, lk, putd, ok1, okM, abin, Option.getD_some, if_true, if_false, Nat.reduceEqDiff, Bool.false_eq_true, List.map_cons, List.map_nil, bne_self_eq_false]
            simp only [Tryz.fn3_r14, AmR, kp, pushA, exe, Arg.val, Env.at, lk, putd, ok1, okM, Option.getD_some, if_true, if_false, Bool.not_true, Nat.reduceEqDiff, Bool.false_eq_true, aun]
            simp only [Tryz.fn3_r16, beq_self_eq_true, endK_ret, AmR, kp, exe, Arg.val, Env.at, lk, putd, ok1, okM, abin, Option.getD_some, if_true, if_false, Nat.reduceEqDiff, resAll, resOf, Option.some.injEq, exists_eq_left']
          · have hS2 : exS l = [] := by unfold exS; rw [if_neg hok2]
            have f2 : (exE l = 0) = False := eq_false hok2
            have f3 : (exE l == 0) = false := by simpa using hok2
            rw [hS2] at x1
            simp only [Tryz.fn3_r10, x1, AmR, kp, exe, Arg.val, Env.at, lk, putd, ok1, okM, Option.getD_some, if_true, if_false, List.getElem?_cons_zero, List.getElem?_cons_succ, reduceCtorEq, Nat.reduceEqDiff, List.map_cons, List.map_nil]
            simp only [Tryz.fn3_r11, f3, AmR, kp, pushA, exe, Arg.val, Env.at, lk, putd, ok1, okM, abin, Option.getD_some, if_true, if_false, Nat.reduceEqDiff]
            simp only [Tryz.fn3_r16, f3, beq_self_eq_true, endK_ret, AmR, kp, exe, Arg.val, Env.at, lk, putd, ok1, okM, abin, Option.getD_some, if_true, if_false, Nat.reduceEqDiff, Bool.false_eq_true, resAll, resOf, Option.some.injEq, exists_eq_left'])
  exact ⟨H', hc⟩

end Go.Am
