/-
Export, of the program. Conditions: those that each theorem names.
-/
import Derived.Test.YtolilamofgildaaDoorAmYa
import Derived.Test.YtolilamofgildaaDoorAmU
import Derived.Test.YtolilamofgildaaDoorAmWb
set_option linter.unusedSimpArgs false
set_option linter.unusedVariables false
namespace Go.Am

def expT (l : List OutR) : List UInt8 := l.flatMap OutR.line
def exE (l : List OutR) : Int := if l.all OutR.fits = true then (if (expT l).length ≤ 1048576 then 0 else 6) else 1
def exS (l : List OutR) : List UInt8 := if exE l = 0 then expT l else []

theorem line_ne (x : OutR) : x.line ≠ [] := by unfold OutR.line; simp
theorem line_len (x : OutR) (hx : x.fits = true) : x.line.length ≤ 30000 := by
  unfold OutR.fits at hx
  simp only [Bool.and_eq_true, decide_eq_true_eq] at hx
  obtain ⟨⟨h1, h2, h3, h4⟩, hok⟩ := hx
  have g1 := itoa_len20 (n := x.node) (by omega) (by omega)
  have g2 := itoa_len20 (n := x.at') (by omega) (by omega)
  have g3 := lineL_len _ hok
  unfold OutR.line
  simp only [List.length_append, List.length_cons, List.length_nil]
  omega

theorem SB.len {m : Nat} {H : AH} {p : Nat} {s : List UInt8} (h : SB m H p s) : Tryd.call 32 [.ptr p 0] H = some (.ok (.int .i64 s.length), H) := by
  obtain ⟨hN, hfp, hmp, hpn, h⟩ := h
  refine ecall_W 6 [] _ _ (out := [.int .i64 s.length]) rfl rfl rfl ?_
  show W Tryd.call _ _ _ _ _
  rcases h with ⟨rfl, g⟩ | ⟨q, h1, h2, h3, h4, h5, g, g2⟩
  · simp only [Tryd.fn32, Tryd.fn32_r0, AmR, kp, exe, number, Arg.val, Env.at, lk, putd, ok1, Option.getD_some, if_true, if_false, reduceCtorEq, List.length_nil, Int.cast_ofNat_Int]
    simp only [Tryd.fn32_r1, g, exactK_ret, AmR, kp, exe, Arg.val, Env.at, lk, putd, ok1, okM, Option.getD_some, if_true, if_false, List.getElem?_cons_zero, List.getElem?_cons_succ, reduceCtorEq, Nat.reduceEqDiff, Nat.reduceAdd, resAll, resOf, and_true, Option.map_some, Int.cast_ofNat_Int, ↓exe_lenl, lenS_nils]
  · simp only [Tryd.fn32, Tryd.fn32_r0, AmR, kp, exe, number, Arg.val, Env.at, lk, putd, ok1, Option.getD_some, if_true, if_false, reduceCtorEq]
    simp only [Tryd.fn32_r1, g, exactK_ret, AmR, kp, exe, Arg.val, Env.at, lk, putd, ok1, okM, Option.getD_some, if_true, if_false, List.getElem?_cons_zero, List.getElem?_cons_succ, reduceCtorEq, Nat.reduceEqDiff, Nat.reduceAdd, resAll, resOf, and_true, Option.map_some, ↓exe_lenl, lenS_sl]

theorem Tryd.expChk (l : List OutR) (hl : l.length ≤ 1000000) (u : AV) (H0 : AH) (hv : SliceV H0 9 u l.length (rowsOf OutR.cells l)) (nl : ∀ i o z n c, u = .sl i o z n c → i < H0.next) (hfl0 : H0.floor ≤ H0.next) (K : AX → St → Prop) (ks : List Fr) (L : ACode) (hL : L = .loop (some [0, 11, 12, 13]) Tryd.fn13_l1) :
    ∀ (m i : Nat) (H : AH), m + i = l.length → Kept H0.next H0 H → Names H →
      ((l.drop i).all OutR.fits = true → ∀ H' a b, Kept H0.next H0 H' → Names H' → Nx Tryd.call K ks [(14, .bool false), (0, u), (11, u), (12, .int .i64 l.length), (13, a), (14, b)] H') →
      ((l.drop i).all OutR.fits = false → ∀ e H', e.at 2 = .str [] → e.at 3 = .int .i64 1 → Rt Tryd.call K ks e H') →
      W Tryd.call K (.block 0 :: ks) [(0, u), (11, u), (12, .int .i64 l.length), (13, .int .i64 i)] H L := by
  intro m
  induction m with
  | zero =>
    intro i H hi hK hN hd hf
    refine W_loopN hL ?_
    have hi' : i = l.length := by omega
    subst hi'
    have hlt : ((l.length : Int) < (l.length : Int)) = False := eq_false (by omega)
    rw [List.drop_length] at hd
    simp only [Tryd.fn13_l1, Tryd.fn13_r2, hlt, AmR, kp, pushA, exe, Arg.val, Env.at, lk, putd, okM, abin, Option.getD_some, if_true, if_false, reduceCtorEq, Nat.reduceEqDiff, decide_false]
    exact hd rfl H _ _ hK hN
  | succ m ih =>
    intro i H hi hK hN hd hf
    refine W_loopN hL ?_
    obtain ⟨x, hx⟩ : ∃ x, l[i]? = some x := ⟨_, List.getElem?_eq_getElem (by omega)⟩
    have h0 : (0 : Int) ≤ (i : Int) := by omega
    have h1 : ((i : Int) < (l.length : Int)) = True := eq_true (by omega)
    have hw := succ_wrap (i := i) (by omega)
    have hfl : H.floor ≤ H.next := by have := hK.1; have := hK.2.1; omega
    have st := store_push H 40 true [.int .i64 0, .int .i64 0, .int .i64 0, .int .i64 0, .int .i64 0, .int .i64 0, .int .i64 0, .str [], .int .i64 0] x.cells hfl rfl x.sol
    have gn : (H.push 40 true x.cells).cellsAt H.next 0 9 = some x.cells := cellsAt_new _ _ _ _ rfl
    have l9 := x.cells_len
    have hK1 : Kept H0.next H0 (H.push 40 true x.cells) := hK.trans (Kept.push _ _ hK.2.1 _ _ _)
    have hN1 := hN.push 40 true x.cells
    have hfit : ∀ H, Tryd.call 28 [.agg x.cells] H = some (.ok (.bool x.fits), H) := Tryd.fits x
    have sv : SliceV H 9 u l.length (rowsOf OutR.cells l) := hv.old nl hK.2.2
    rw [drop_cons' hx, List.all_cons] at hd hf
    rcases sv.cases with ⟨rfl, h, _⟩ | ⟨rfl, h, _⟩ | ⟨q1, o, cc, bm, rfl, hbm, hlm, hcm⟩
    · omega
    · omega
    have cm : H.cellsAt q1 (o + i * 9) 9 = some x.cells := cellsAt_rowO OutR.cells_len hbm hlm hcm hx
    simp only [Tryd.fn13_l1, Tryd.fn13_r2, h1, AmR, kp, pushA, exe, Arg.val, Env.at, lk, putd, okM, abin, Option.getD_some, if_true, if_false, reduceCtorEq, Nat.reduceEqDiff, decide_true]
    simp only [Tryd.fn13_r3, h0, h1, Int.toNat_natCast, and_self, cm, l9, st, AmR, kp, exe, Arg.val, Env.at, lk, putd, AV.cells?, ok1, okM, Option.getD_some, if_true, if_false, reduceCtorEq, Nat.reduceEqDiff, Option.map_some]
    cases hxf : x.fits with
    | false =>
      simp only [Tryd.fn13_r4, gn, hfit, hxf, AmR, kp, pushA, exe, Arg.val, Env.at, lk, putd, okM, Option.getD_some, if_true, if_false, Bool.not_false, reduceCtorEq, Nat.reduceEqDiff, aun, List.map_cons, List.map_nil, Option.map_some]
      simp only [Tryd.fn13_r5, AmR, kp, exe, Arg.val, Env.at, lk, putd, ok1, Option.getD_some, if_true, if_false, reduceCtorEq, Nat.reduceEqDiff]
      exact hf (by rw [hxf]; rfl) _ _ rfl rfl
    | true =>
      simp only [Tryd.fn13_r4, gn, hfit, hxf, AmR, kp, pushA, exe, Arg.val, Env.at, lk, putd, okM, Option.getD_some, if_true, if_false, Bool.not_true, reduceCtorEq, Nat.reduceEqDiff, aun, List.map_cons, List.map_nil, Option.map_some]
      simp only [Tryd.fn13_r6, hw, AmR, kp, exe, Arg.val, Env.at, lk, putd, ok1, okM, abin, Option.getD_some, if_true, if_false, reduceCtorEq, Nat.reduceEqDiff]
      exact ih (i + 1) _ (by omega) hK1 hN1 (fun h => hd (by rw [hxf, h]; rfl)) fun h => hf (by rw [hxf, h]; rfl)

theorem Tryd.expOut (l : List OutR) (hl : l.length ≤ 1000000) (hfits : ∀ x ∈ l, x.fits = true) (u : AV) (H0 : AH) (hv : SliceV H0 9 u l.length (rowsOf OutR.cells l)) (nl : ∀ i o z n c, u = .sl i o z n c → i < H0.next) (hfl0 : H0.floor ≤ H0.next) (p : Nat) (K : AX → St → Prop) (ks : List Fr) (L : ACode) (hL : L = .loop (some [6, 21, 22, 23]) Tryd.fn13_l0) :
    ∀ (m i : Nat) (s : List UInt8) (H : AH), m + i = l.length → SB H0.next H p s → s.length ≤ 1048576 → Kept H0.next H0 H →
      ((s ++ expT (l.drop i)).length ≤ 1048576 → ∀ H' a b, SB H0.next H' p (s ++ expT (l.drop i)) → Nx Tryd.call K ks [(24, .bool false), (6, .ptr p 0), (21, u), (22, .int .i64 l.length), (23, a), (24, b)] H') →
      (¬ (s ++ expT (l.drop i)).length ≤ 1048576 → ∀ e H', e.at 2 = .str [] → e.at 3 = .int .i64 6 → Rt Tryd.call K ks e H') →
      W Tryd.call K (.block 2 :: ks) [(6, .ptr p 0), (21, u), (22, .int .i64 l.length), (23, .int .i64 i)] H L := by
  intro m
  induction m with
  | zero =>
    intro i s H hi hb hs hK hd hf
    refine W_loopN hL ?_
    have hi' : i = l.length := by omega
    subst hi'
    have hlt : ((l.length : Int) < (l.length : Int)) = False := eq_false (by omega)
    have e0 : s ++ expT (l.drop l.length) = s := by rw [List.drop_length]; simp [expT]
    rw [e0] at hd
    simp only [Tryd.fn13_l0, Tryd.fn13_r9, hlt, AmR, kp, pushA, exe, Arg.val, Env.at, lk, putd, okM, abin, Option.getD_some, if_true, if_false, Nat.reduceEqDiff, decide_false]
    exact hd hs H _ _ hb
  | succ m ih =>
    intro i s H hi hb hs hK hd hf
    refine W_loopN hL ?_
    obtain ⟨x, hx⟩ : ∃ x, l[i]? = some x := ⟨_, List.getElem?_eq_getElem (by omega)⟩
    have hxf := hfits x (List.mem_of_getElem? hx)
    have hok : x.ev.ok = true := by unfold OutR.fits at hxf; simp only [Bool.and_eq_true] at hxf; exact hxf.2
    have hnb : 0 ≤ x.node ∧ x.node < 16 ∧ 0 ≤ x.at' ∧ x.at' ≤ 1099511627776 := by unfold OutR.fits at hxf; simp only [Bool.and_eq_true, decide_eq_true_eq] at hxf; exact hxf.1
    have h0 : (0 : Int) ≤ (i : Int) := by omega
    have h1 : ((i : Int) < (l.length : Int)) = True := eq_true (by omega)
    have hw := succ_wrap (i := i) (by omega)
    have hfl : H.floor ≤ H.next := by have := hK.1; have := hK.2.1; omega
    have st := store_push H 40 true [.int .i64 0, .int .i64 0, .int .i64 0, .int .i64 0, .int .i64 0, .int .i64 0, .int .i64 0, .str [], .int .i64 0] x.cells hfl rfl x.sol
    have gb := get_push_new H 40 true x.cells
    have gn : (H.push 40 true x.cells).cellsAt H.next 2 7 = some x.ev.cells := by
      unfold AH.cellsAt
      rw [gb]
      rfl
    have l9 := x.cells_len
    have hK1 : Kept H0.next H0 (H.push 40 true x.cells) := hK.trans (Kept.push _ _ hK.2.1 _ _ _)
    have hb1 := hb.push 40 true x.cells
    have hlc : ∀ H, Tryd.call 29 [.agg x.ev.cells] H = some (.ok (.tup [.str (lineL x.ev), .int .i64 0]), H) := fun H => Tryd.line x.ev H hok
    have d1 := fun H => Tryd.itoa x.node H (by omega) (by omega)
    have d2 := fun H => Tryd.itoa x.at' H (by omega) (by omega)
    have hll := line_len x hxf
    have sv : SliceV H 9 u l.length (rowsOf OutR.cells l) := hv.old nl hK.2.2
    have et : expT (l.drop i) = x.line ++ expT (l.drop (i + 1)) := by rw [drop_cons' hx]; simp [expT]
    rw [et, ← List.append_assoc] at hd hf
    obtain ⟨H2, w1, w2, w3⟩ := hb1.writeK (by show H0.next ≤ H.next + 1; have := hK.2.1; omega) x.line (line_ne x) (by omega)
    have hlen := w2.len
    have g1 := itoa_len20 (n := x.node) (by omega) (by omega)
    have g2 := itoa_len20 (n := x.at') (by omega) (by omega)
    have g3 := lineL_len _ hok
    have c0 : x.cells[0]? = some (.int .i64 x.node) := rfl
    have c1' : x.cells[1]? = some (.int .i64 x.at') := rfl
    have hnew := hb1.1.new
    have eL : x.line = Lib.itoa x.node ++ [32] ++ Lib.itoa x.at' ++ [32] ++ lineL x.ev ++ [10] := by unfold OutR.line; simp
    rcases sv.cases with ⟨rfl, h, _⟩ | ⟨rfl, h, _⟩ | ⟨q1, o, cc, bm, rfl, hbm, hlm, hcm⟩
    · omega
    · omega
    have cm : H.cellsAt q1 (o + i * 9) 9 = some x.cells := cellsAt_rowO OutR.cells_len hbm hlm hcm hx
    simp only [Tryd.fn13_l0, Tryd.fn13_r9, h1, AmR, kp, pushA, exe, Arg.val, Env.at, lk, putd, okM, abin, Option.getD_some, if_true, if_false, Nat.reduceEqDiff, decide_true]
    simp only [Tryd.fn13_r10, h0, h1, Int.toNat_natCast, and_self, cm, l9, st, AmR, kp, exe, Arg.val, Env.at, lk, putd, AV.cells?, ok1, okM, Option.getD_some, if_true, if_false, Nat.reduceEqDiff, Option.map_some]
    simp only [Tryd.fn13_r11, gn, hlc, Nat.zero_add, AmR, kp, exe, Arg.val, Env.at, lk, putd, ok1, okM, Option.getD_some, if_true, if_false, List.getElem?_cons_zero, List.getElem?_cons_succ, Nat.reduceEqDiff, List.map_cons, List.map_nil, Option.map_some]
    refine W_drawn' (by kernel_rfl) ?_
    generalize hH1 : H.push 40 true x.cells = H1 at *
    have hNg : ∀ nx fl j, (AH.mk H1.blks nx fl).get j = H1.get j := fun _ _ _ => rfl
    rw [eL] at w1
    generalize Lib.itoa x.node = A at *
    generalize Lib.itoa x.at' = B at *
    generalize lineL x.ev = ll at *
    have k1 : A.length + 1 ≤ 281474976710656 := by omega
    have k2 : (A ++ [32]).length + B.length ≤ 281474976710656 := by simp; omega
    have k3 : (A ++ [32] ++ B).length ≤ 281474976710655 := by simp; omega
    have k4 : (A ++ [32] ++ B ++ [32]).length + ll.length ≤ 281474976710656 := by simp; omega
    have k5 : (A ++ [32] ++ B ++ [32] ++ ll).length ≤ 281474976710655 := by simp; omega
    simp only [Tryd.fn13_r12, Tryd.fn13_r12a, Tryd.fn13_r12b, hNg, gb, c0, c1', d1, d2, k1, k2, k3, k4, k5, w1, hnew, Nat.zero_add, AmR, kp, exe, Arg.val, Env.at, lk, putd, ok1, okM, abin, Option.getD_some, if_true, if_false, Nat.reduceEqDiff, Nat.reduceAdd, true_and, List.nil_append, visH, List.filter_nil, List.flatMap_nil, List.contains_cons, List.contains_nil, Bool.or_false, Nat.reduceLeDiff, List.map_cons, List.map_nil, List.length_cons, List.length_nil]
    by_cases hbig : ((s ++ x.line).length : Int) > 1048576
    · have e1 : ((s ++ x.line).length : Int) > 1048576 := hbig
      have e1 := eq_true e1
      simp only [Tryd.fn13_r13, hlen, e1, AmR, kp, pushA, exe, Arg.val, Env.at, lk, putd, okM, abin, Option.getD_some, if_true, if_false, Nat.reduceEqDiff, decide_true, List.map_cons, List.map_nil]
      simp only [Tryd.fn13_r14, AmR, kp, exe, Arg.val, Env.at, lk, putd, ok1, Option.getD_some, if_true, if_false, Nat.reduceEqDiff]
      exact hf (by rw [List.length_append]; omega) _ _ rfl rfl
    · have e1 := eq_false hbig
      simp only [Tryd.fn13_r13, hlen, e1, AmR, kp, pushA, exe, Arg.val, Env.at, lk, putd, okM, abin, Option.getD_some, if_true, if_false, Nat.reduceEqDiff, decide_false, List.map_cons, List.map_nil]
      simp only [Tryd.fn13_r15, hw, AmR, kp, exe, Arg.val, Env.at, lk, putd, ok1, okM, abin, Option.getD_some, if_true, if_false, Nat.reduceEqDiff]
      exact ih (i + 1) (s ++ x.line) H2 (by omega) w2 (by omega) (hK1.trans w3) hd hf

theorem Tryd.export (v : AV) (l : List OutR) (hl : l.length ≤ 1000000) (H : AH) (hv : SliceV H 9 v l.length (rowsOf OutR.cells l)) :
    Tryd.call 13 [v] H = some (.ok (.tup [.str (exS l), .int .i64 (exE l)]), H) := by
  obtain ⟨w, bs, kq, hvw, sw, hN0, _, hw⟩ := views_one hv (outs_flat l) 6 (rest := []) (us := []) fun k => views_nil H k
  refine ecall_flat 6 [] _ _ (out := [.str (exS l), .int .i64 (exE l)]) rfl rfl rfl hvw rfl ?_
  show W Tryd.call _ _ _ _ _
  generalize hH : (⟨bs ++ [], kq, kq⟩ : AH) = H0 at *
  have hn : H0.next = kq := by rw [← hH]
  have hfl : H0.floor = H0.next := by rw [← hH]
  subst hn
  have hwl := sw.lenS
  simp only [Tryd.fn13, Tryd.fn13_r0, AmR, kp, exe, number, Arg.val, Env.at, lk, putd, ok1, Option.getD_some, if_true, if_false, reduceCtorEq]
  simp only [Tryd.fn13_r1, hwl, AmR, kp, exe, Arg.val, Env.at, lk, putd, ok1, okM, Option.getD_some, if_true, if_false, reduceCtorEq, Nat.reduceEqDiff, Option.map_some, ↓exe_lenl]
  refine Tryd.expChk l hl w H0 sw hw (by omega) _ _ _ rfl l.length 0 H0 (by omega) (Kept.refl _ _) hN0 (fun h H1 a b k1 k2 => ?_) fun h e H1 k1 k2 => ?_
  · rw [List.drop_zero] at h
    have sb : SB H0.next (H1.push 51 true [.nilp, .nils]) H1.next [] := ⟨k2.push _ _ _, by show H1.floor ≤ H1.next; have h1 := k1.1; have h2 := k1.2.1; omega, k1.2.1, Nat.lt_succ_self _, .inl ⟨rfl, get_push_new _ _ _ _⟩⟩
    simp only [Tryd.fn13_r7, AmR, kp, exe, Env.at, lk, putd, ok1, Option.getD_some, if_true, if_false, reduceCtorEq, Nat.reduceEqDiff]
    simp only [Tryd.fn13_r8, hwl, AmR, kp, exe, Arg.val, Env.at, lk, putd, ok1, okM, Option.getD_some, if_true, if_false, reduceCtorEq, Nat.reduceEqDiff, Option.map_some, ↓exe_lenl]
    refine Tryd.expOut l hl (List.all_eq_true.1 h) w H0 sw hw (by omega) H1.next _ _ _ rfl l.length 0 [] _ (by omega) sb (by simp) (k1.trans (Kept.push _ _ k1.2.1 _ _ _)) (fun hs H2 a b k3 => ?_) fun hs e H2 k3 k4 => ?_
    · rw [List.drop_zero, List.nil_append] at hs k3
      have hE : exE l = 0 := by unfold exE; rw [if_pos h, if_pos hs]
      have hS : exS l = expT l := by unfold exS; rw [if_pos hE]
      obtain ⟨H3, b1, _, _⟩ := k3.stringK (by omega)
      rw [hE, hS]
      simp only [Tryd.fn13_r16, b1, AmR, kp, exe, Arg.val, Env.at, lk, putd, ok1, Option.getD_some, if_true, if_false, Nat.reduceEqDiff, resAll, resOf, List.map_cons, List.map_nil]
    · rw [List.drop_zero, List.nil_append] at hs
      have hE : exE l = 6 := by unfold exE; rw [if_pos h, if_neg hs]
      have hS : exS l = [] := by unfold exS; rw [if_neg (by rw [hE]; simp)]
      rw [hE, hS]
      simp only [Rt_code, Rt_nil, AmR, Env.at, resAll, resOf, Option.some.injEq, List.cons.injEq, and_true]
      exact ⟨k3, k4⟩
  · rw [List.drop_zero] at h
    have hE : exE l = 1 := by unfold exE; rw [if_neg (by rw [h]; simp)]
    have hS : exS l = [] := by unfold exS; rw [if_neg (by rw [hE]; simp)]
    rw [hE, hS]
    simp only [Rt_code, Rt_nil, AmR, Env.at, resAll, resOf, Option.some.injEq, List.cons.injEq, and_true]
    exact ⟨k1, k2⟩

end Go.Am
