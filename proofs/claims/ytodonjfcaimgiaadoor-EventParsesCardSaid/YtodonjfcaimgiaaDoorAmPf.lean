/-
Unquote of the program. Conditions: those that each theorem names.
-/
import Derived.Test.YtodonjfcaimgiaaDoorAmPe
import Derived.Test.YtodonjfcaimgiaaDoorMc
set_option linter.unusedSimpArgs false
set_option linter.unusedVariables false
namespace Go.Am

/-- What has been read of s0, and what is left of it. -/
def UInv (s0 s out : List UInt8) : Prop := ∀ d : List UInt8, s0 = d.flatMap quote1 → ∃ d2, s = d2.flatMap quote1 ∧ d = out ++ d2

theorem UInv.step {s0 s out : List UInt8} {c : UInt8} {n : Nat} (h : UInv s0 s out) (hs : stepU s = some (c, n)) : UInv s0 (s.drop n) (out ++ [c]) := by
  intro d hd
  obtain ⟨d2, rfl, rfl⟩ := h d hd
  cases d2 with
  | nil => cases hs
  | cons x d3 =>
    rw [List.flatMap_cons, stepU_quote, Option.some.injEq, Prod.mk.injEq] at hs
    obtain ⟨rfl, rfl⟩ := hs
    exact ⟨d3, by rw [List.flatMap_cons, List.drop_left], by simp⟩
theorem UInv.fail {s0 s out : List UInt8} (h : UInv s0 s out) (hs : stepU s = none) (hne : s ≠ []) : ∀ d : List UInt8, s0 ≠ d.flatMap quote1 := by
  intro d hd
  obtain ⟨d2, rfl, rfl⟩ := h d hd
  cases d2 with
  | nil => exact hne rfl
  | cons x d3 => rw [List.flatMap_cons, stepU_quote] at hs; cases hs

theorem Tryd.unqLoop (s0 : List UInt8) (hw : s0.length ≤ 1000000) (K : AX → St → Prop) (ks : List Fr) (L : ACode) (hL : L = .loop (some [0, 4]) Tryd.fn38_l0)
    (hk : ∀ H' v r e, OutV 8 H' 5 1 v r.length (ofBytes r) → r.length ≤ s0.length → (∀ d : List UInt8, s0 = d.flatMap quote1 → r = d) → e.at 4 = v → Nx Tryd.call K ks e H')
    (hr : (∀ d : List UInt8, s0 ≠ d.flatMap quote1) → ∀ e H', e.at 2 = .str [] → e.at 3 = .int .i64 4 → Rt Tryd.call K ks e H') : ∀ (n : Nat) (s out : List UInt8) (H : AH) (v : AV), s.length ≤ n → out.length + s.length ≤ s0.length → UInv s0 s out → OutV 8 H 5 1 v out.length (ofBytes out) →
    W Tryd.call K (.block 0 :: ks) [(0, .str s), (4, v)] H L := by
  intro n
  induction n with
  | zero =>
    intro s out H v hn hl hu ho
    refine W_loopN hL ?_
    have hs : s = [] := List.length_eq_zero_iff.1 (by omega)
    subst hs
    simp only [Tryd.fn38_l0, Tryd.fn38_r6, AmR, Cd_nbeq, kp, pushA, exe, Arg.val, Env.at, lk, putd, ok1, okM, abin, Option.getD_some, if_true, if_false, reduceCtorEq, Nat.reduceEqDiff]
    refine ⟨fun _ => hk H v out _ ho (by omega) (fun d hd => ?_) rfl, fun h => absurd trivial h⟩
    obtain ⟨d2, h1, rfl⟩ := hu d hd
    cases d2 with
    | nil => simp
    | cons x d3 =>
      have := congrArg List.length h1
      have hp := quote1_pos x
      rw [List.flatMap_cons, List.length_append, List.length_nil] at this
      omega
  | succ n ih =>
    intro s out H v hn hl hu ho
    refine W_loopN hL ?_
    cases hs : s with
    | nil =>
      subst hs
      simp only [Tryd.fn38_l0, Tryd.fn38_r6, AmR, Cd_nbeq, kp, pushA, exe, Arg.val, Env.at, lk, putd, ok1, okM, abin, Option.getD_some, if_true, if_false, reduceCtorEq, Nat.reduceEqDiff]
      refine ⟨fun _ => hk H v out _ ho (by omega) (fun d hd => ?_) rfl, fun h => absurd trivial h⟩
      obtain ⟨d2, h1, rfl⟩ := hu d hd
      cases d2 with
      | nil => simp
      | cons x d3 =>
        have := congrArg List.length h1
        have hp := quote1_pos x
        rw [List.flatMap_cons, List.length_append, List.length_nil] at this
        omega
    | cons c t =>
      have hst := stepU_cons c t
      rw [← hs] at hst ⊢
      have hne : s ≠ [] := by rw [hs]; simp
      have hb : (s == ([] : List UInt8)) = false := by rw [beq_eq_false_iff_ne]; exact hne
      have hc : s[0]? = some c := by rw [hs]; rfl
      have hl1 : 1 ≤ s.length := by rw [hs, List.length_cons]; omega
      have h00 : (0 : Int) ≤ 0 := Int.le_refl 0
      have hpl := Tryd.plain (c.toNat : Int)
      have hesc := Tryd.escape s (by omega)
      clear hs
      have app : ∀ (b : UInt8) (m : Nat), stepU s = some (b, m) → ∃ v' H', aapp (H.push 5 true [.int .u8 b.toNat]) 5 1 1 v [.int .u8 b.toNat] = some (.ok v', H') ∧ W Tryd.call K (.block 0 :: ks) [(0, .str (s.drop m)), (4, v')] H' L := fun b m hbm => by
        obtain ⟨v', H', e1, e2, e3, e4, e5⟩ := ho.snoc 1 (new := [.int .u8 b.toNat]) rfl (by omega)
        have hm := stepU_len hbm
        refine ⟨v', H', e1, ih (s.drop m) (out ++ [b]) H' v' ?_ ?_ (hu.step hbm) ?_⟩
        · rw [List.length_drop]; omega
        · rw [List.length_append, List.length_drop, List.length_singleton]; omega
        · rw [List.length_append, List.length_singleton, ← ofBytes_append]
          exact e2
      simp only [Tryd.fn38_l0, Tryd.fn38_r6, hne, AmR, Cd_nbeq, kp, pushA, exe, Arg.val, Env.at, lk, putd, ok1, okM, abin, Option.getD_some, if_true, if_false, reduceCtorEq, Nat.reduceEqDiff]
      refine ⟨fun h => h.elim, fun _ => ?_⟩
      simp only [Tryd.fn38_r7, h00, Int.toNat_zero, hc, i32_byte, hpl, Cd_bool, AmR, kp, pushA, exe, Arg.val, Env.at, lk, putd, ok1, okM, Option.getD_some, if_true, if_false, reduceCtorEq, Nat.reduceEqDiff, List.map_cons, List.map_nil, Option.map_some]
      refine ⟨fun hp => ?_, fun hp => ?_⟩
      · rw [if_pos hp] at hst
        obtain ⟨v', H', ha, hW⟩ := app c 1 hst
        have b1 : bnds s.length s.length (some (.int .i64 (1 : Int))) none = some (1, s.length) := by rw [bnds_lo (by omega) (by omega)]; rfl
        have htk : (s.drop 1).take (s.length - 1) = s.drop 1 := List.take_of_length_le (by rw [List.length_drop]; omega)
        refine W_drawn' (by kernel_rfl) ?_
        simp only [Tryd.fn38_r8, Tryd.fn38_r8a, h00, Int.toNat_zero, hc, b1, htk, takeFrom, cellsAt_new, AH.eta, ha, AmR, kp, exe, Arg.val, Env.at, lk, putd, AV.cells?, ok1, okM, Option.getD_some, if_true, if_false, reduceCtorEq, Nat.reduceEqDiff, Nat.reduceAdd, Nat.reduceMul, Bool.true_eq_false, and_true, true_and, List.nil_append, List.append_nil, visH, List.flatMap_nil, Nat.reduceLeDiff, List.map_cons, List.map_nil, putAt, solid, List.all_cons, List.all_nil, Bool.and_self, List.length_cons, List.length_nil, Option.map_some, Option.map_none, afill, rep, List.reduceReplicate, List.flatten_cons, List.flatten_nil, List.set_cons_zero]
        exact hW
      · rw [if_neg (by rw [hp]; decide)] at hst
        simp only [Tryd.fn38_r9, AmR, kp, exe, Arg.val, Env.at, lk, putd, ok1, Option.getD_some, if_true, if_false, reduceCtorEq, Nat.reduceEqDiff]
        simp only [Tryd.fn38_r10, h00, Int.toNat_zero, hc, AmR, Cd_beq, kp, pushA, exe, Arg.val, Env.at, lk, putd, ok1, okM, abin, Option.getD_some, if_true, if_false, reduceCtorEq, Nat.reduceEqDiff, Option.map_some]
        refine ⟨fun h92 => ?_, fun h92 => ?_⟩
        · have c92 : c = 92 := UInt8.toNat_inj.1 (by show c.toNat = 92; omega)
          rw [if_pos c92] at hst
          simp only [Tryd.fn38_r11, hesc, AmR, exe, Arg.val, Env.at, lk, putd, ok1, okM, Option.getD_some, if_true, if_false, reduceCtorEq, Nat.reduceEqDiff, List.map_cons, List.map_nil]
          unfold escR
          cases he : escO s with
          | none =>
            rw [he] at hst
            simp only [Tryd.fn38_r12, Tryd.fn38_r13, AmR, Cd_beq, kp, pushA, exe, Arg.val, Env.at, lk, putd, ok1, okM, abin, Option.getD_some, if_true, if_false, List.getElem?_cons_zero, List.getElem?_cons_succ, reduceCtorEq, Nat.reduceEqDiff]
            exact ⟨fun _ => hr (hu.fail hst hne) _ _ rfl rfl, fun h => absurd trivial h⟩
          | some p =>
            obtain ⟨b, m⟩ := p
            rw [he] at hst
            obtain ⟨v', H', ha, hW⟩ := app b m hst
            have hm := stepU_len hst
            have b1 : bnds s.length s.length (some (.int .i64 (m : Int))) none = some (m, s.length) := by rw [bnds_lo (by omega) (by omega)]; rfl
            have htk : (s.drop m).take (s.length - m) = s.drop m := List.take_of_length_le (by rw [List.length_drop]; omega)
            simp only [Tryd.fn38_r12, Tryd.fn38_r13, AmR, Cd_beq, kp, pushA, exe, Arg.val, Env.at, lk, putd, ok1, okM, abin, Option.getD_some, if_true, if_false, List.getElem?_cons_zero, List.getElem?_cons_succ, reduceCtorEq, Nat.reduceEqDiff]
            refine ⟨fun h => absurd h (by omega), fun _ => ?_⟩
            refine W_drawn' (by kernel_rfl) ?_
            simp only [Tryd.fn38_r14, Tryd.fn38_r14a, b1, htk, takeFrom, cellsAt_new, AH.eta, ha, AmR, kp, exe, Arg.val, Env.at, lk, putd, AV.cells?, ok1, Option.getD_some, if_true, if_false, reduceCtorEq, Nat.reduceEqDiff, Nat.reduceAdd, Nat.reduceMul, Bool.true_eq_false, and_true, true_and, List.nil_append, List.append_nil, visH, List.flatMap_nil, Nat.reduceLeDiff, List.map_cons, List.map_nil, putAt, solid, List.all_cons, List.all_nil, Bool.and_self, List.length_cons, List.length_nil, Option.map_some, Option.map_none, afill, rep, List.reduceReplicate, List.flatten_cons, List.flatten_nil, List.set_cons_zero]
            exact hW
        · have c92 : c ≠ 92 := by rintro rfl; simp at h92
          rw [if_neg c92] at hst
          simp only [Tryd.fn38_r12, Tryd.fn38_r13, AmR, Cd_beq, kp, pushA, exe, Arg.val, Env.at, lk, putd, ok1, okM, abin, Option.getD_some, if_true, if_false, reduceCtorEq, Nat.reduceEqDiff]
          exact ⟨fun _ => hr (hu.fail hst hne) _ _ rfl rfl, fun h => absurd trivial h⟩

theorem OutV.takeFrom {lo : Nat} {H : AH} {ty z : Nat} {v : AV} {m : Nat} {cells : List AV} (h : OutV lo H ty z v m cells) : (v = .nils ∧ cells = []) ∨ ∃ q c, v = .sl q 0 z m c ∧ H.cellsAt q 0 (m * z) = some cells := by
  obtain ⟨hz, h1, h2, h3⟩ := h
  rcases h3 with ⟨h4, _, h5⟩ | ⟨q, c, _, h5, h6⟩
  · exact .inl ⟨h4, h5⟩
  · exact .inr ⟨q, c, h5, h6.cells⟩

def UnqP (w : List UInt8) (H : AH) (vs : List AV) (H' : AH) : Prop := H' = H ∧ ∃ (r : List UInt8) (e : Int), vs = [.str r, .int .i64 e] ∧ r.length ≤ w.length ∧ ∀ d, w = quoteL d → r = d ∧ e = 0

theorem UnqP.bad {w : List UInt8} {H : AH} (h : ∀ d, w ≠ quoteL d) (H1 : AH) : Back 8 H (UnqP w H) [.str [], .int .i64 4] H1 :=
  back_flat rfl ⟨rfl, [], 4, rfl, by simp, fun d hd => absurd hd (h d)⟩

theorem quoteL_first (d : List UInt8) : (quoteL d)[0]? = some 34 := rfl
theorem quoteL_size (d : List UInt8) : (quoteL d).length = (d.flatMap quote1).length + 2 := by
  unfold quoteL
  simp only [List.length_cons, List.length_append, List.length_nil]
theorem quoteL_last (d : List UInt8) : (quoteL d)[(quoteL d).length - 1]? = some 34 := by
  rw [quoteL_size]
  show (34 :: (d.flatMap quote1 ++ [34]))[(d.flatMap quote1).length + 1]? = some 34
  rw [List.getElem?_cons_succ, List.getElem?_append_right (Nat.le_refl _), Nat.sub_self]
  rfl
theorem quoteL_in (d : List UInt8) : ((quoteL d).drop 1).take ((quoteL d).length - 1 - 1) = d.flatMap quote1 := by
  rw [quoteL_size]
  show (d.flatMap quote1 ++ [34]).take _ = _
  rw [show (d.flatMap quote1).length + 2 - 1 - 1 = (d.flatMap quote1).length by omega, List.take_left]

theorem Tryd.unq (w : List UInt8) (hw : w.length ≤ 1000000) (H : AH) : ∃ (r : List UInt8) (e : Int), Tryd.call 38 [.str w] H = some (.ok (.tup [.str r, .int .i64 e]), H) ∧ r.length ≤ w.length ∧ ∀ d, w = quoteL d → r = d ∧ e = 0 := by
  suffices h : W Tryd.call (endK Tryd.fn38.res (Back 8 H (UnqP w H))) [] [(0, .str w)] ⟨[], 8, 8⟩ Tryd.fn38.code by
    obtain ⟨vs, H', ⟨rfl, r, e, rfl, hr⟩, hc⟩ := ecall_vE 8 [] (lk Tryd.ext) (lk Tryd.tab) (f := 38) (fn := Tryd.fn38) (args := [.str w]) (H := H) rfl rfl rfl (views_flat rfl (views_nil H 8)) h
    exact ⟨r, e, hc, hr⟩
  simp only [Tryd.fn38, Tryd.fn38_r0, AmR, kp, exe, Arg.val, Env.at, lk, putd, ok1, Option.getD_some, if_true, if_false, reduceCtorEq]
  by_cases hl : (w.length : Int) < 2
  · have d2 : decide ((w.length : Int) < 2) = true := decide_eq_true hl
    simp only [Tryd.fn38_r1, Tryd.fn38_r2, Tryd.fn38_r3, d2, AmR, kp, pushA, exe, Arg.val, Env.at, lk, putd, ok1, okM, abin, Option.getD_some, if_true, if_false, reduceCtorEq, Nat.reduceEqDiff, resAll, resOf, Option.some.injEq, exists_eq_left']
    exact UnqP.bad (fun d e => by have := quoteL_size d; rw [← e] at this; omega) _
  · have d2 : decide ((w.length : Int) < 2) = false := decide_eq_false hl
    have h00 : (0 : Int) ≤ 0 := Int.le_refl 0
    obtain ⟨a, ha⟩ : ∃ a, w[0]? = some a := ⟨_, List.getElem?_eq_getElem (by omega)⟩
    obtain ⟨z, hz⟩ : ∃ z, w[w.length - 1]? = some z := ⟨_, List.getElem?_eq_getElem (by omega)⟩
    have hb : ∀ (c : UInt8), c ≠ 34 → ((c.toNat : Int) != 34) = true := fun c h => by
      rw [bne_iff_ne]
      intro e
      exact h (UInt8.toNat_inj.1 (by show c.toNat = 34; omega))
    have hw1 : IntKind.i64.wrap ((w.length : Int) - 1) = ((w.length - 1 : Nat) : Int) := by rw [IntWalk.i64_in _ (by omega)]; omega
    have hn1 : (0 : Int) ≤ ((w.length - 1 : Nat) : Int) := by omega
    have b1 : bnds w.length w.length (some (.int .i64 (1 : Int))) (some (.int .i64 ((w.length - 1 : Nat) : Int))) = some (1, w.length - 1) := by
      have a1 : (0 : Int) ≤ ((w.length - 1 : Nat) : Int) ∧ ((w.length - 1 : Nat) : Int) ≤ (w.length : Int) := by omega
      have a2 : (0 : Int) ≤ 1 ∧ (1 : Int) ≤ ((w.length - 1 : Nat) : Int) := by omega
      simp only [bnds, bnd, a1, and_self, if_true, Int.toNat_natCast, a2]
      rfl
    simp only [Tryd.fn38_r1, Tryd.fn38_r2, d2, h00, Int.toNat_zero, ha, hw1, hn1, Int.toNat_natCast, hz, AmR, Cd_bne, Rf_bne, kp, pushA, exe, Arg.val, Env.at, lk, putd, ok1, okM, abin, Option.getD_some, if_true, if_false, reduceCtorEq, Nat.reduceEqDiff, Bool.false_eq_true, Option.map_some]
    refine ⟨fun h1 => ⟨fun h2 => ?_, fun h2 => ?_⟩, fun h1 => ?_⟩
    · simp only [Tryd.fn38_r4, hw1, b1, AmR, kp, exe, Arg.val, Env.at, lk, putd, ok1, okM, abin, Option.getD_some, if_true, if_false, reduceCtorEq, Nat.reduceEqDiff, Option.map_some]
      simp only [Tryd.fn38_r5, AmR, kp, exe, Arg.val, Env.at, lk, putd, ok1, Option.getD_some, if_true, if_false, reduceCtorEq]
      generalize hs0 : (w.drop 1).take (w.length - 1 - 1) = s0
      have hs0l : s0.length + 2 ≤ w.length := by rw [← hs0, List.length_take, List.length_drop]; omega
      have hin : ∀ d, w = quoteL d → s0 = d.flatMap quote1 := fun d e => by rw [← hs0, e]; exact quoteL_in d
      refine Tryd.unqLoop s0 (by omega) _ _ _ rfl ?_ ?_ s0.length s0 [] _ _ (Nat.le_refl _) (by simp) (fun d hd => ⟨d, hd, rfl⟩) ⟨by decide, by decide, by decide, .inl ⟨rfl, rfl, rfl⟩⟩
      · intro H' v r e ho hr hd h4
        simp only [Env.at] at h4
        have out : ∀ H1, Back 8 H (UnqP w H) [.str r, .int .i64 0] H1 := fun H1 => back_flat rfl ⟨rfl, r, 0, rfl, by omega, fun d e => ⟨hd d (hin d e), rfl⟩⟩
        have tb := toBytes_of r
        rcases ho.takeFrom with ⟨rfl, hc⟩ | ⟨q, c, rfl, hc⟩
        · rw [hc] at tb
          simp only [Tryd.fn38_r15, h4, takeFrom, tb, AmR, kp, exe, Arg.val, Env.at, lk, putd, ok1, okM, Option.getD_some, if_true, if_false, Nat.reduceEqDiff, resAll, resOf, Option.some.injEq, Option.map_some, exists_eq_left']
          exact out _
        · simp only [Tryd.fn38_r15, h4, takeFrom, hc, tb, AmR, kp, exe, Arg.val, Env.at, lk, putd, ok1, okM, Option.getD_some, if_true, if_false, Nat.reduceEqDiff, resAll, resOf, Option.some.injEq, Option.map_some, exists_eq_left']
          exact out _
      · intro hd e H' h2 h3
        simp only [Rt_code, Rt_nil]
        rw [endK_ret]
        exact ⟨_, by simp only [resAll, resOf, h2, h3], UnqP.bad (fun d e => hd d (hin d e)) _⟩
    · simp only [Tryd.fn38_r3, AmR, kp, exe, Arg.val, Env.at, lk, putd, ok1, Option.getD_some, if_true, if_false, reduceCtorEq, Nat.reduceEqDiff, resAll, resOf, Option.some.injEq, exists_eq_left']
      refine UnqP.bad (fun d e => ?_) _
      have := quoteL_last d
      rw [← e, hz, Option.some.injEq] at this
      exact h2 (by rw [this]; rfl)
    · simp only [Tryd.fn38_r3, AmR, kp, exe, Arg.val, Env.at, lk, putd, ok1, Option.getD_some, if_true, if_false, reduceCtorEq, Nat.reduceEqDiff, resAll, resOf, Option.some.injEq, exists_eq_left']
      refine UnqP.bad (fun d e => ?_) _
      have := quoteL_first d
      rw [← e, ha, Option.some.injEq] at this
      exact h1 (by rw [this]; rfl)

/-- A string is restored from what quotes it. -/
theorem quoteL_inj (d d' : List UInt8) (h : quoteL d = quoteL d') : d = d' := by
  have h1 : ∀ d d' : List UInt8, d.flatMap quote1 = d'.flatMap quote1 → d = d' := by
    intro d
    induction d with
    | nil =>
      intro d' e
      cases d' with
      | nil => rfl
      | cons x d' =>
        have := congrArg List.length e
        have hp := quote1_pos x
        rw [List.flatMap_cons, List.length_append, List.flatMap_nil, List.length_nil] at this
        omega
    | cons x d ih =>
      intro d' e
      cases d' with
      | nil =>
        have := congrArg List.length e
        have hp := quote1_pos x
        rw [List.flatMap_cons, List.length_append, List.flatMap_nil, List.length_nil] at this
        omega
      | cons y d' =>
        rw [List.flatMap_cons, List.flatMap_cons] at e
        have e2 := congrArg stepU e
        rw [stepU_quote, stepU_quote, Option.some.injEq, Prod.mk.injEq] at e2
        obtain ⟨rfl, _⟩ := e2
        rw [ih d' (List.append_cancel_left e)]
  refine h1 d d' ?_
  rw [← quoteL_in d, ← quoteL_in d', h]

end Go.Am
