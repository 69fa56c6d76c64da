/-
Export, of the reference. Conditions: those that each theorem names.
-/
import Derived.Test.YtolilamofgildaaDoorAmYb
set_option linter.unusedSimpArgs false
set_option linter.unusedVariables false
namespace Go.Am

theorem Tryd.refChk (l : List OutR) (hl : l.length ≤ 1000000) (u : AV) (H : AH) (hv : SliceV H 9 u l.length (rowsOf OutR.cells l)) (K : AX → St → Prop) (ks : List Fr) (L : ACode) (hL : L = .loop (some [0, 4]) Tryd.fn14_l1) :
    ∀ (m i : Nat), m + i = l.length →
      ((l.drop i).all OutR.fits = true → ∀ a b, Nx Tryd.call K ks [(10, .bool false), (0, u), (4, a), (10, b)] H) →
      ((l.drop i).all OutR.fits = false → ∀ e, e.at 2 = .str [] → e.at 3 = .int .i64 1 → Rt Tryd.call K ks e H) →
      W Tryd.call K (.block 0 :: ks) [(0, u), (4, .int .i64 i)] H L := by
  have hwl := hv.lenS
  intro m
  induction m with
  | zero =>
    intro i hi hd hf
    refine W_loopN hL ?_
    have hi' : i = l.length := by omega
    subst hi'
    have hlt : ((l.length : Int) < (l.length : Int)) = False := eq_false (by omega)
    rw [List.drop_length] at hd
    simp only [Tryd.fn14_l1, Tryd.fn14_r2, hwl, hlt, AmR, kp, pushA, exe, Arg.val, Env.at, lk, putd, ok1, okM, abin, Option.getD_some, if_true, if_false, reduceCtorEq, Nat.reduceEqDiff, decide_false, Option.map_some, ↓exe_lenl]
    exact hd rfl _ _
  | succ m ih =>
    intro i hi hd hf
    refine W_loopN hL ?_
    obtain ⟨x, hx⟩ : ∃ x, l[i]? = some x := ⟨_, List.getElem?_eq_getElem (by omega)⟩
    have h0 : (0 : Int) ≤ (i : Int) := by omega
    have h1 : ((i : Int) < (l.length : Int)) = True := eq_true (by omega)
    have hw := succ_wrap (i := i) (by omega)
    have hcan : ∀ H, Tryd.call 33 [.agg x.cells] H = some (.ok (.bool x.fits), H) := Tryd.can x
    rw [drop_cons' hx, List.all_cons] at hd hf
    rcases hv.cases with ⟨rfl, h, _⟩ | ⟨rfl, h, _⟩ | ⟨q1, o, cc, bm, rfl, hbm, hlm, hcm⟩
    · omega
    · omega
    have cm : H.cellsAt q1 (o + i * 9) 9 = some x.cells := cellsAt_rowO OutR.cells_len hbm hlm hcm hx
    simp only [Tryd.fn14_l1, Tryd.fn14_r2, hwl, h1, AmR, kp, pushA, exe, Arg.val, Env.at, lk, putd, ok1, okM, abin, Option.getD_some, if_true, if_false, reduceCtorEq, Nat.reduceEqDiff, decide_true, Option.map_some, ↓exe_lenl]
    cases hxf : x.fits with
    | false =>
      simp only [Tryd.fn14_r3, h0, h1, Int.toNat_natCast, and_self, cm, hcan, hxf, AmR, kp, pushA, exe, Arg.val, Env.at, lk, putd, ok1, okM, Option.getD_some, if_true, if_false, Bool.not_false, reduceCtorEq, Nat.reduceEqDiff, aun, List.map_cons, List.map_nil, Option.map_some]
      simp only [Tryd.fn14_r4, AmR, kp, exe, Arg.val, Env.at, lk, putd, ok1, Option.getD_some, if_true, if_false, reduceCtorEq, Nat.reduceEqDiff]
      exact hf (by rw [hxf]; rfl) _ rfl rfl
    | true =>
      simp only [Tryd.fn14_r3, h0, h1, Int.toNat_natCast, and_self, cm, hcan, hxf, AmR, kp, pushA, exe, Arg.val, Env.at, lk, putd, ok1, okM, Option.getD_some, if_true, if_false, Bool.not_true, reduceCtorEq, Nat.reduceEqDiff, aun, List.map_cons, List.map_nil, Option.map_some]
      simp only [Tryd.fn14_r5, hw, AmR, kp, exe, Arg.val, Env.at, lk, putd, ok1, okM, abin, Option.getD_some, if_true, if_false, reduceCtorEq, Nat.reduceEqDiff]
      exact ih (i + 1) (by omega) (fun h => hd (by rw [hxf, h]; rfl)) fun h => hf (by rw [hxf, h]; rfl)

theorem Tryd.refExpOut (l : List OutR) (hl : l.length ≤ 1000000) (hfits : ∀ x ∈ l, x.fits = true) (u : AV) (H0 : AH) (hv : SliceV H0 9 u l.length (rowsOf OutR.cells l)) (nl : ∀ i o z n c, u = .sl i o z n c → i < H0.next) (K : AX → St → Prop) (ks : List Fr) (L : ACode) (hL : L = .loop (some [0, 5, 6]) Tryd.fn14_l0) :
    ∀ (m i : Nat) (s : List UInt8) (ov : AV) (H : AH), m + i = l.length → ByV H0.next H ov s → s.length ≤ 1048576 → Kept H0.next H0 H → Names H →
      ((s ++ expT (l.drop i)).length ≤ 1048576 → ∀ H' ov' a b, ByV H0.next H' ov' (s ++ expT (l.drop i)) → Nx Tryd.call K ks [(23, .bool false), (0, u), (5, ov'), (6, a), (23, b)] H') →
      (¬ (s ++ expT (l.drop i)).length ≤ 1048576 → ∀ e H', e.at 2 = .str [] → e.at 3 = .int .i64 6 → Rt Tryd.call K ks e H') →
      W Tryd.call K (.block 2 :: ks) [(0, u), (5, ov), (6, .int .i64 i)] H L := by
  have hwl := hv.lenS
  intro m
  induction m with
  | zero =>
    intro i s ov H hi hb hs hK hN hd hf
    refine W_loopN hL ?_
    have hi' : i = l.length := by omega
    subst hi'
    have hlt : ((l.length : Int) < (l.length : Int)) = False := eq_false (by omega)
    have e0 : s ++ expT (l.drop l.length) = s := by rw [List.drop_length]; simp [expT]
    rw [e0] at hd
    simp only [Tryd.fn14_l0, Tryd.fn14_r8, hwl, hlt, AmR, kp, pushA, exe, Arg.val, Env.at, lk, putd, ok1, okM, abin, Option.getD_some, if_true, if_false, reduceCtorEq, Nat.reduceEqDiff, decide_false, Option.map_some, ↓exe_lenl]
    exact hd hs H ov _ _ hb
  | succ m ih =>
    intro i s ov H hi hb hs hK hN hd hf
    refine W_loopN hL ?_
    obtain ⟨x, hx⟩ : ∃ x, l[i]? = some x := ⟨_, List.getElem?_eq_getElem (by omega)⟩
    have hxf := hfits x (List.mem_of_getElem? hx)
    have h0 : (0 : Int) ≤ (i : Int) := by omega
    have h1 : ((i : Int) < (l.length : Int)) = True := eq_true (by omega)
    have hw := succ_wrap (i := i) (by omega)
    have hlc : ∀ H, Tryd.call 34 [.agg x.cells] H = some (.ok (.str x.line), H) := Tryd.lineOut x hxf
    have hll := line_len x hxf
    have sv : SliceV H 9 u l.length (rowsOf OutR.cells l) := hv.old nl hK.2.2
    have et : expT (l.drop i) = x.line ++ expT (l.drop (i + 1)) := by rw [drop_cons' hx]; simp [expT]
    rw [et, ← List.append_assoc] at hd hf
    obtain ⟨ov', H2, w1, w2, w3, w4⟩ := hb.app x.line (line_ne x) (by omega)
    have hlen := w2.lenS
    rcases sv.cases with ⟨rfl, h, _⟩ | ⟨rfl, h, _⟩ | ⟨q1, o, cc, bm, rfl, hbm, hlm, hcm⟩
    · omega
    · omega
    have cm : H.cellsAt q1 (o + i * 9) 9 = some x.cells := cellsAt_rowO OutR.cells_len hbm hlm hcm hx
    simp only [Tryd.fn14_l0, Tryd.fn14_r8, hwl, h1, AmR, kp, pushA, exe, Arg.val, Env.at, lk, putd, ok1, okM, abin, Option.getD_some, if_true, if_false, reduceCtorEq, Nat.reduceEqDiff, decide_true, Option.map_some, ↓exe_lenl]
    simp only [Tryd.fn14_r9, h0, h1, Int.toNat_natCast, and_self, cm, hlc, takeFrom, ofBytes_solid, w1, AmR, kp, exe, Arg.val, Env.at, lk, putd, ok1, okM, Option.getD_some, if_true, if_false, reduceCtorEq, Nat.reduceEqDiff, Bool.true_eq_false, List.map_cons, List.map_nil, Option.map_some]
    by_cases hbig : ((s ++ x.line).length : Int) > 1048576
    · have e1 := eq_true hbig
      simp only [Tryd.fn14_r10, hlen, e1, AmR, kp, pushA, exe, Arg.val, Env.at, lk, putd, ok1, okM, abin, Option.getD_some, if_true, if_false, reduceCtorEq, Nat.reduceEqDiff, decide_true, Option.map_some, ↓exe_lenl]
      simp only [Tryd.fn14_r11, AmR, kp, exe, Arg.val, Env.at, lk, putd, ok1, Option.getD_some, if_true, if_false, reduceCtorEq, Nat.reduceEqDiff]
      exact hf (by rw [List.length_append]; omega) _ _ rfl rfl
    · have e1 := eq_false hbig
      simp only [Tryd.fn14_r10, hlen, e1, AmR, kp, pushA, exe, Arg.val, Env.at, lk, putd, ok1, okM, abin, Option.getD_some, if_true, if_false, reduceCtorEq, Nat.reduceEqDiff, decide_false, Option.map_some, ↓exe_lenl]
      simp only [Tryd.fn14_r12, hw, AmR, kp, exe, Arg.val, Env.at, lk, putd, ok1, okM, abin, Option.getD_some, if_true, if_false, reduceCtorEq, Nat.reduceEqDiff]
      exact ih (i + 1) (s ++ x.line) ov' H2 (by omega) w2 (by omega) (hK.trans w3) (w4 hN) hd hf

theorem Tryd.exportRef (v : AV) (l : List OutR) (hl : l.length ≤ 1000000) (H : AH) (hv : SliceV H 9 v l.length (rowsOf OutR.cells l)) :
    Tryd.call 14 [v] H = some (.ok (.tup [.str (exS l), .int .i64 (exE l)]), H) := by
  obtain ⟨w, bs, kq, hvw, sw, hN0, _, hw⟩ := views_one hv (outs_flat l) 6 (rest := []) (us := []) fun k => views_nil H k
  refine ecall_flat 6 [] _ _ (out := [.str (exS l), .int .i64 (exE l)]) rfl rfl rfl hvw rfl ?_
  show W Tryd.call _ _ _ _ _
  generalize hH : (⟨bs ++ [], kq, kq⟩ : AH) = H0 at *
  have hn : H0.next = kq := by rw [← hH]
  have hfl : H0.floor = H0.next := by rw [← hH]
  subst hn
  simp only [Tryd.fn14, Tryd.fn14_r0, AmR, kp, exe, number, Arg.val, Env.at, lk, putd, ok1, Option.getD_some, if_true, if_false, reduceCtorEq]
  simp only [Tryd.fn14_r1, AmR, kp, exe, Arg.val, Env.at, lk, putd, ok1, Option.getD_some, if_true, if_false, reduceCtorEq]
  refine Tryd.refChk l hl w H0 sw _ _ _ rfl l.length 0 (by omega) (fun h a b => ?_) fun h e k1 k2 => ?_
  · rw [List.drop_zero] at h
    have hby : ByV H0.next (H0.push 5 true []) (.sl H0.next 0 1 0 (some 0)) [] := ⟨H0.next, some 0, rfl, Nat.le_refl _, Nat.le_succ _, own_new H0 5 true [] (some 0) (by omega) rfl (.inl rfl) (by omega)⟩
    simp only [Tryd.fn14_r6, AmR, kp, exe, Arg.val, Env.at, lk, putd, ok1, Option.getD_some, if_true, if_false, reduceCtorEq, Nat.reduceEqDiff, List.map_nil, afill, rep, List.reduceReplicate, List.flatten_nil]
    simp only [Tryd.fn14_r7, AmR, kp, exe, Arg.val, Env.at, lk, putd, ok1, Option.getD_some, if_true, if_false, reduceCtorEq, Nat.reduceEqDiff]
    refine Tryd.refExpOut l hl (List.all_eq_true.1 h) w H0 sw hw _ _ _ rfl l.length 0 [] _ _ (by omega) hby (by simp) (Kept.push _ _ (Nat.le_refl _) _ _ _) (hN0.push _ _ _) (fun hs H2 ov' a b k3 => ?_) fun hs e H2 k3 k4 => ?_
    · rw [List.drop_zero, List.nil_append] at hs k3
      have hE : exE l = 0 := by unfold exE; rw [if_pos h, if_pos hs]
      have hS : exS l = expT l := by unfold exS; rw [if_pos hE]
      have hby := k3.bytes
      obtain ⟨q, c, rfl, _⟩ := k3
      simp only [takeFrom, if_true] at hby
      rw [Nat.mul_one] at hby
      rw [hE, hS]
      simp only [Tryd.fn14_r13, takeFrom, Nat.mul_one, hby, toBytes_of, AmR, kp, exe, Arg.val, Env.at, lk, putd, ok1, okM, Option.getD_some, if_true, if_false, reduceCtorEq, Nat.reduceEqDiff, resAll, resOf, Option.map_some]
    · rw [List.drop_zero, List.nil_append] at hs
      have hE : exE l = 6 := by unfold exE; rw [if_pos h, if_neg hs]
      have hS : exS l = [] := by unfold exS; rw [if_neg (by rw [hE]; simp)]
      rw [hE, hS]
      simp only [Rt_code, Rt_nil, AmR, Env.at, resAll, resOf, Option.some.injEq, List.cons.injEq, and_true]
      exact ⟨k3, k4⟩
  · rw [List.drop_zero] at h
    have hE : exE l = 1 := by unfold exE; rw [if_neg (by rw [h]; simp)]
    have hS : exS l = [] := by unfold exS; rw [if_neg (by rw [hE]; simp)]
    rw [hE, hS]
    simp only [Rt_code, Rt_nil, AmR, Env.at, resAll, resOf, Option.some.injEq, List.cons.injEq, and_true]
    exact ⟨k1, k2⟩

end Go.Am
