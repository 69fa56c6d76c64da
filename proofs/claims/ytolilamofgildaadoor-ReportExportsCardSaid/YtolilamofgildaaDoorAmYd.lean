/-
Counts, of the reference; the law of exports. Conditions: those that each theorem names.
-/
import Derived.Test.YtolilamofgildaaDoorAmYc
set_option linter.unusedSimpArgs false
set_option linter.unusedVariables false
namespace Go.Am

theorem OutV.backV {lo kp : Nat} {H H1 : AH} {ty z : Nat} {v : AV} {n : Nat} {cells : List AV} {R : List AV → AH → Prop} (h : OutV lo H1 ty z v n cells) (hk : kp ≤ lo) (hfl : cells.all flat1 = true) (hN : Names H)
    (hR : ∀ u H', SliceV H' z u n cells → Grow H H' → Names H' → (∀ i o z m c, u = .sl i o z m c → i < H'.next) → R [u] H') : Back kp H R [v] H1 := by
  obtain ⟨hz, h1, h2, h3⟩ := h
  rcases h3 with ⟨rfl, e1, e2⟩ | ⟨q, c, h4, rfl, h6⟩
  · refine back_flat rfl (hR .nils H ?_ (Grow.refl _) hN fun _ _ _ _ _ e => by cases e)
    rw [e1, e2]; exact .nil
  · obtain ⟨_, hl, hc, hf, hn, wh, s0, hq⟩ := h6
    refine back_slice (by omega) hq rfl hfl rfl (hR _ _ ?_ (Grow.take1 _ _) ?_ fun _ _ _ _ _ e => by cases e; exact Nat.lt_succ_self _)
    · have := SliceV.sl (H := H.take1 ⟨cells, false, ty, wh, s0⟩) (z := z) (i := H.next) (o := 0) (n := n) (c := c) (get_take1 _ _) (by show 0 + n * z ≤ cells.length; omega)
      rw [List.drop_zero, List.take_of_length_le (by show cells.length ≤ _; omega)] at this
      exact this
    · intro x hx
      show x.1 < H.next + 1
      rcases List.mem_cons.1 hx with rfl | hx
      · exact Nat.lt_succ_self _
      · have := hN x hx; omega

theorem Tryd.refCntIn (l : List OutR) (hl : l.length ≤ 1000000) (u ov : AV) (n : Int) (k : Nat) (Hb : AH) (hfl : Hb.floor ≤ Hb.next) (hv : SliceV Hb 9 u l.length (rowsOf OutR.cells l)) (nl : ∀ i o z n c, u = .sl i o z n c → i < Hb.next) (K : AX → St → Prop) (ks : List Fr) (L : ACode) (hL : L = .loop (some [0, 1, 5, 6, 7, 8]) Tryd.fn16_l0) :
    ∀ (m i : Nat), m + i = l.length →
      (∀ a b, Nx Tryd.call K ks [(23, .bool false), (0, u), (1, .int .i64 n), (5, ov), (6, .int .i64 k), (7, .ptr Hb.next 0), (8, a), (23, b)] (Hb.push 35 true [.int .i64 (cn0 l k : Nat), .int .i64 (cn1 l k : Nat)])) →
      W Tryd.call K (.block 2 :: ks) [(0, u), (1, .int .i64 n), (5, ov), (6, .int .i64 k), (7, .ptr Hb.next 0), (8, .int .i64 i)] (Hb.push 35 true [.int .i64 (cn0 (l.take i) k : Nat), .int .i64 (cn1 (l.take i) k : Nat)]) L := by
  have hwl := hv.lenS
  intro m
  induction m with
  | zero =>
    intro i hi hd
    refine W_loopN hL ?_
    have hi' : i = l.length := by omega
    subst hi'
    have hlt : ((l.length : Int) < (l.length : Int)) = False := eq_false (by omega)
    rw [List.take_length]
    simp only [Tryd.fn16_l0, Tryd.fn16_r6, hwl, hlt, AmR, kp, pushA, exe, Arg.val, Env.at, lk, putd, ok1, okM, abin, Option.getD_some, if_true, if_false, reduceCtorEq, Nat.reduceEqDiff, decide_false, Option.map_some, ↓exe_lenl]
    exact hd _ _
  | succ m ih =>
    intro i hi hd
    refine W_loopN hL ?_
    obtain ⟨x, hx⟩ : ∃ x, l[i]? = some x := ⟨_, List.getElem?_eq_getElem (by omega)⟩
    have h0 : (0 : Int) ≤ (i : Int) := by omega
    have h1 : ((i : Int) < (l.length : Int)) = True := eq_true (by omega)
    have hw := succ_wrap (i := i) (by omega)
    have b0 : cn0 (l.take i) k ≤ 1000000 := by have := cn0_le (l.take i) k; rw [List.length_take] at this; omega
    have b1 : cn1 (l.take i) k ≤ 1000000 := by have := cn1_le (l.take i) k; omega
    have w0 := succ_wrap (i := cn0 (l.take i) k) (by omega)
    have w1 := succ_wrap (i := cn1 (l.take i) k) (by omega)
    have next := ih (i + 1) (by omega) hd
    rw [cn0_step hx, cn1_step hx] at next
    generalize cn0 (l.take i) k = A at *
    generalize cn1 (l.take i) k = B at *
    have g0 := fun A B => get_push_new Hb 35 true [.int .i64 (A : Nat), .int .i64 (B : Nat)]
    have hst0 : (Hb.push 35 true [.int .i64 (A : Nat), .int .i64 (B : Nat)]).store Hb.next 0 [.int .i64 ((A + 1 : Nat) : Int)] = some (Hb.push 35 true [.int .i64 ((A + 1 : Nat) : Int), .int .i64 (B : Nat)]) := by
      rw [store_new Hb 35 true _ _ _ hfl (by simp) rfl]; rfl
    have hst1 : ∀ A : Nat, (Hb.push 35 true [.int .i64 (A : Int), .int .i64 (B : Nat)]).store Hb.next 1 [.int .i64 ((B + 1 : Nat) : Int)] = some (Hb.push 35 true [.int .i64 (A : Int), .int .i64 ((B + 1 : Nat) : Int)]) := fun A => by
      rw [store_new Hb 35 true _ _ _ hfl (by simp) rfl]; rfl
    rcases hv.cases with ⟨rfl, h, _⟩ | ⟨rfl, h, _⟩ | ⟨q1, o, cc, bm, rfl, hbm, hlm, hcm⟩
    · omega
    · omega
    have hq := nl _ _ _ _ _ rfl
    have hbm' : ∀ A B : Nat, (Hb.push 35 true [.int .i64 (A : Int), .int .i64 (B : Int)]).get q1 = some bm := fun A B => (get_push_old _ _ _ _ hq).trans hbm
    have hc0 : bm.cells[o + i * 9]? = some (.int .i64 x.node) := by have := cell_row9 OutR.cells_len hcm hx (j := 0) (by omega); exact this
    have hc8 : bm.cells[o + (i * 9 + 8)]? = some (.int .i64 x.ev.ft) := by rw [← Nat.add_assoc]; exact cell_row9 OutR.cells_len hcm hx (j := 8) (by omega)
    simp only [Tryd.fn16_l0, Tryd.fn16_r6, hwl, h1, AmR, kp, pushA, exe, Arg.val, Env.at, lk, putd, ok1, okM, abin, Option.getD_some, if_true, if_false, reduceCtorEq, Nat.reduceEqDiff, decide_true, Option.map_some, ↓exe_lenl]
    by_cases hk : x.node = (k : Int)
    · have e1 : (x.node == (k : Int)) = true := by rw [hk]; simp
      rw [if_pos hk] at next
      simp only [Tryd.fn16_r7, h0, h1, hbm', hc0, e1, Int.toNat_natCast, and_self, Nat.add_zero, AmR, kp, pushA, exe, Arg.val, Env.at, lk, putd, ok1, okM, abin, Option.getD_some, if_true, if_false, reduceCtorEq, Nat.reduceEqDiff]
      simp only [Tryd.fn16_r8, g0, w0, hst0, Nat.add_zero, Nat.zero_add, AmR, kp, exe, Arg.val, Env.at, lk, putd, AV.cells?, ok1, okM, abin, Option.getD_some, if_true, if_false, List.getElem?_cons_zero, reduceCtorEq, Nat.reduceEqDiff, Nat.reduceMul, and_true, List.length_cons, List.length_nil, Option.map_some, Int.reduceLT, Int.reduceLE, Int.reduceToNat, Int.cast_ofNat_Int]
      by_cases hft : x.ev.ft = 0
      · have e2 : (x.ev.ft != 0) = false := by rw [hft]; rfl
        rw [if_neg (fun h => h.2 hft), Nat.add_zero] at next
        simp only [Tryd.fn16_r9, h0, h1, hbm', hc8, e2, Int.toNat_natCast, and_self, Nat.add_assoc, Nat.reduceAdd, AmR, kp, pushA, exe, Arg.val, Env.at, lk, putd, ok1, okM, abin, Option.getD_some, if_true, if_false, reduceCtorEq, Nat.reduceEqDiff, Nat.reduceAdd]
        simp only [Tryd.fn16_r11, hw, AmR, kp, exe, Arg.val, Env.at, lk, putd, ok1, okM, abin, Option.getD_some, if_true, if_false, reduceCtorEq, Nat.reduceEqDiff]
        exact next
      · have e2 : (x.ev.ft != 0) = true := by simpa using hft
        rw [if_pos ⟨hk, hft⟩] at next
        simp only [Tryd.fn16_r9, h0, h1, hbm', hc8, e2, Int.toNat_natCast, and_self, Nat.add_assoc, Nat.reduceAdd, AmR, kp, pushA, exe, Arg.val, Env.at, lk, putd, ok1, okM, abin, Option.getD_some, if_true, if_false, reduceCtorEq, Nat.reduceEqDiff, Nat.reduceAdd]
        simp only [Tryd.fn16_r10, g0, w1, hst1, Nat.zero_add, Nat.one_mul, AmR, kp, exe, Arg.val, Env.at, lk, putd, AV.cells?, ok1, okM, abin, Option.getD_some, if_true, if_false, List.getElem?_cons_zero, List.getElem?_cons_succ, reduceCtorEq, Nat.reduceEqDiff, and_true, List.length_cons, List.length_nil, Option.map_some, Int.reduceLT, Int.reduceLE, Int.reduceToNat, Int.cast_ofNat_Int]
        simp only [Tryd.fn16_r11, hw, AmR, kp, exe, Arg.val, Env.at, lk, putd, ok1, okM, abin, Option.getD_some, if_true, if_false, reduceCtorEq, Nat.reduceEqDiff]
        exact next
    · have e1 : (x.node == (k : Int)) = false := by simpa using hk
      rw [if_neg hk, if_neg (fun h => hk h.1), Nat.add_zero, Nat.add_zero] at next
      simp only [Tryd.fn16_r7, h0, h1, hbm', hc0, e1, Int.toNat_natCast, and_self, Nat.add_zero, AmR, kp, pushA, exe, Arg.val, Env.at, lk, putd, ok1, okM, abin, Option.getD_some, if_true, if_false, reduceCtorEq, Nat.reduceEqDiff]
      simp only [Tryd.fn16_r11, hw, AmR, kp, exe, Arg.val, Env.at, lk, putd, ok1, okM, abin, Option.getD_some, if_true, if_false, reduceCtorEq, Nat.reduceEqDiff]
      exact next

theorem Tryd.refCntOut (l : List OutR) (hl : l.length ≤ 1000000) (u : AV) (n : Int) (H0 : AH) (hfl0 : H0.floor ≤ H0.next) (hv : SliceV H0 9 u l.length (rowsOf OutR.cells l)) (nl : ∀ i o z n c, u = .sl i o z n c → i < H0.next) (K : AX → St → Prop) (ks : List Fr) (L : ACode) (hL : L = .loop (some [0, 1, 5, 6]) Tryd.fn16_l1) :
    ∀ (m k : Nat) (ov : AV) (H : AH), m + k = nnOf n → OutV H0.next H 35 2 ov k (tabF k (cn0 l) (cn1 l)) → Kept H0.next H0 H →
      (∀ H' ov' a b, OutV H0.next H' 35 2 ov' (nnOf n) (tabF (nnOf n) (cn0 l) (cn1 l)) → Nx Tryd.call K ks [(16, .bool false), (0, u), (1, .int .i64 n), (5, ov'), (6, a), (16, b)] H') →
      W Tryd.call K (.block 0 :: ks) [(0, u), (1, .int .i64 n), (5, ov), (6, .int .i64 k)] H L := by
  intro m
  induction m with
  | zero =>
    intro k ov H hk ho hK hd
    refine W_loopN hL ?_
    have hk' : k = nnOf n := by omega
    by_cases h1 : (k : Int) < n
    · have e1 : ((k : Int) < n) = True := eq_true h1
      have e2 : ((k : Int) < 16) = False := eq_false (by unfold nnOf at hk'; omega)
      simp only [Tryd.fn16_l1, Tryd.fn16_r3, e1, e2, AmR, kp, pushA, exe, Arg.val, Env.at, lk, putd, ok1, okM, abin, Option.getD_some, if_true, if_false, reduceCtorEq, Nat.reduceEqDiff, decide_true, decide_false]
      rw [hk'] at ho
      exact hd H ov _ _ ho
    · have e1 : ((k : Int) < n) = False := eq_false h1
      simp only [Tryd.fn16_l1, Tryd.fn16_r3, e1, AmR, kp, pushA, exe, Arg.val, Env.at, lk, putd, ok1, okM, abin, Option.getD_some, if_true, if_false, reduceCtorEq, Nat.reduceEqDiff, decide_false, Bool.false_eq_true]
      rw [hk'] at ho
      exact hd H ov _ _ ho
  | succ m ih =>
    intro k ov H hk ho hK hd
    refine W_loopN hL ?_
    have e1 : ((k : Int) < n) = True := eq_true (by unfold nnOf at hk; omega)
    have e2 : ((k : Int) < 16) = True := eq_true (by unfold nnOf at hk; omega)
    have hk16 : k < 16 := by unfold nnOf at hk; omega
    have hw := succ_wrap (i := k) (by omega)
    have hfl : H.floor ≤ H.next := by have := hK.1; have := hK.2.1; omega
    have st := store_push H 35 true [.int .i64 0, .int .i64 0] [.int .i64 0, .int .i64 0] hfl rfl rfl
    have sv : SliceV H 9 u l.length (rowsOf OutR.cells l) := hv.old nl hK.2.2
    have nl' : ∀ i o z n c, u = .sl i o z n c → i < H.next := fun i o z n c e => Nat.lt_of_lt_of_le (nl i o z n c e) hK.2.1
    have ho1 := ho.push 35 true [.int .i64 (cn0 l k : Nat), .int .i64 (cn1 l k : Nat)]
    have hK1 : Kept H0.next H0 (H.push 35 true [.int .i64 (cn0 l k : Nat), .int .i64 (cn1 l k : Nat)]) := hK.trans (Kept.push _ _ hK.2.1 _ _ _)
    have gc : (H.push 35 true [.int .i64 (cn0 l k : Nat), .int .i64 (cn1 l k : Nat)]).cellsAt H.next 0 2 = some [.int .i64 (cn0 l k : Nat), .int .i64 (cn1 l k : Nat)] := cellsAt_new _ _ _ _ rfl
    obtain ⟨ov', H2, a1, a2, a3, a4, a5⟩ := OutV.snoc ho1 16 (new := [.int .i64 (cn0 l k : Nat), .int .i64 (cn1 l k : Nat)]) rfl (by omega)
    have hin := Tryd.refCntIn l hl u ov n k H hfl sv nl'
    have z0 : cn0 (l.take 0) k = 0 := by simp [cn0]
    have z1 : cn1 (l.take 0) k = 0 := by simp [cn1]
    generalize hH1 : H.push 35 true [.int .i64 (cn0 l k : Nat), .int .i64 (cn1 l k : Nat)] = H1 at *
    have cc : (H1.push 35 true [.int .i64 (cn0 l k : Nat), .int .i64 (cn1 l k : Nat)]).cellsAt H1.next 0 2 = some [.int .i64 (cn0 l k : Nat), .int .i64 (cn1 l k : Nat)] := cellsAt_new _ _ _ _ rfl
    simp only [Tryd.fn16_l1, Tryd.fn16_r3, e1, e2, AmR, kp, pushA, exe, Arg.val, Env.at, lk, putd, ok1, okM, abin, Option.getD_some, if_true, if_false, reduceCtorEq, Nat.reduceEqDiff, decide_true]
    simp only [Tryd.fn16_r4, st, AmR, kp, exe, Arg.val, Env.at, lk, putd, AV.cells?, ok1, okM, Option.getD_some, if_true, if_false, reduceCtorEq, Nat.reduceEqDiff, Nat.reduceAdd, List.map_nil, List.length_cons, List.length_nil, Option.map_some, afill]
    simp only [Tryd.fn16_r5, AmR, kp, exe, Arg.val, Env.at, lk, putd, ok1, Option.getD_some, if_true, if_false, reduceCtorEq, Nat.reduceEqDiff]
    have h0 := hin K (.code (.seq (.reg Tryd.fn16_r12) (.trim [0, 1, 5, 6])) :: .block 1 :: .code (.seq (.reg Tryd.fn16_r13) (.trim [0, 1, 5, 6])) :: .code L :: .block 0 :: ks) _ rfl l.length 0 (by omega) (fun a b => ?_)
    · rw [z0, z1] at h0
      exact h0
    · simp only [Tryd.fn16_r12, gc, cc, takeFrom, a1, AmR, kp, exe, Arg.val, Env.at, lk, putd, AV.cells?, ok1, okM, Option.getD_some, if_true, if_false, reduceCtorEq, Nat.reduceEqDiff, Nat.reduceAdd, Nat.reduceMul, Bool.true_eq_false, and_true, List.append_nil, Nat.reduceLeDiff, List.map_cons, List.map_nil, putAt, solid, List.all_cons, List.all_nil, Bool.and_self, List.length_cons, List.length_nil, Option.map_some, afill, rep, List.reduceReplicate, List.flatten_cons, List.flatten_nil, List.set_cons_zero, List.set_cons_succ]
      simp only [Tryd.fn16_r13, hw, AmR, kp, exe, Arg.val, Env.at, lk, putd, ok1, okM, abin, Option.getD_some, if_true, if_false, reduceCtorEq, Nat.reduceEqDiff]
      exact ih (k + 1) ov' H2 (by omega) a2 (hK1.trans ⟨a3, a4, a5⟩) hd

theorem Tryd.countsRef (v : AV) (l : List OutR) (hl : l.length ≤ 1000000) (n : Int) (H : AH) (hN : Names H) (hv : SliceV H 9 v l.length (rowsOf OutR.cells l)) :
    ∃ u H', Tryd.call 16 [v, .int .i64 n] H = some (.ok u, H') ∧ SliceV H' 2 u (nnOf n) (tabF (nnOf n) (cn0 l) (cn1 l)) ∧ Grow H H' ∧ Names H' ∧ ∀ i o z m c, u = .sl i o z m c → i < H'.next := by
  obtain ⟨w, bs, kq, hvw, sw, hN0, _, hw⟩ := views_one hv (outs_flat l) 6 (rest := [.int .i64 n]) (us := [.int .i64 n]) fun k => views_flat rfl (views_nil H k)
  obtain ⟨vs, H', ⟨u, rfl, h1, h2, h3, h4⟩, hc⟩ := ecall_vE 6 [] (lk Tryd.ext) (lk Tryd.tab) (f := 16) (fn := Tryd.fn16) (args := [v, .int .i64 n]) (H := H) (R := fun vs H' => ∃ u, vs = [u] ∧ SliceV H' 2 u (nnOf n) (tabF (nnOf n) (cn0 l) (cn1 l)) ∧ Grow H H' ∧ Names H' ∧ ∀ i o z m c, u = .sl i o z m c → i < H'.next) rfl rfl rfl hvw (by
    show W Tryd.call _ _ _ _ _
    generalize hH : (⟨bs ++ [], kq, kq⟩ : AH) = H0 at *
    have hn : H0.next = kq := by rw [← hH]
    have hfl : H0.floor = H0.next := by rw [← hH]
    subst hn
    have ho : OutV H0.next (H0.push 35 true []) 35 2 (.sl H0.next 0 2 0 (some 0)) 0 (tabF 0 (cn0 l) (cn1 l)) := ⟨by omega, by show H0.floor ≤ H0.next; omega, Nat.le_succ _, .inr ⟨H0.next, some 0, Nat.le_refl _, rfl, own_new H0 35 true [] (some 0) (by omega) rfl (.inl rfl) (by omega)⟩⟩
    simp only [Tryd.fn16, Tryd.fn16_r0, AmR, kp, exe, number, Arg.val, Env.at, lk, putd, ok1, Option.getD_some, if_true, if_false, reduceCtorEq, Nat.reduceEqDiff, Nat.reduceAdd]
    simp only [Tryd.fn16_r1, AmR, kp, exe, Arg.val, Env.at, lk, putd, ok1, Option.getD_some, if_true, if_false, reduceCtorEq, Nat.reduceEqDiff, List.map_nil, afill, rep, List.reduceReplicate, List.flatten_nil]
    simp only [Tryd.fn16_r2, AmR, kp, exe, Arg.val, Env.at, lk, putd, ok1, Option.getD_some, if_true, if_false, reduceCtorEq, Nat.reduceEqDiff]
    refine Tryd.refCntOut l hl w n H0 (by omega) sw hw _ _ _ rfl (nnOf n) 0 _ _ (by omega) ho (Kept.push _ _ (Nat.le_refl _) _ _ _) fun H1 ov' a b k1 => ?_
    simp only [Tryd.fn16_r14, endK_ret, AmR, kp, exe, Arg.val, Env.at, lk, putd, ok1, Option.getD_some, if_true, if_false, reduceCtorEq, Nat.reduceEqDiff, resAll, resOf, Option.some.injEq, exists_eq_left']
    exact k1.backV (Nat.le_refl _) (tabF_flat _ _ _) hN fun u H' g1 g2 g3 g4 => ⟨u, rfl, g1, g2, g3, g4⟩)
  exact ⟨u, H', hc, h1, h2, h3, h4⟩

theorem Tryd.eqLoop (f g : Nat → Nat) (nn : Nat) (hnn : nn ≤ 16) (x y : AV) (H : AH) (hN : Names H) (hx : SliceV H 2 x nn (tabF nn f g)) (hy : SliceV H 2 y nn (tabF nn f g)) (K : AX → St → Prop) (ks : List Fr) (L : ACode) (hL : L = .loop (some [9, 10, 11]) Tryd.fn5_l0) :
    ∀ (m i : Nat), m + i = nn → (∀ a b, Nx Tryd.call K ks [(51, .bool false), (9, x), (10, y), (11, a), (51, b)] H) →
      W Tryd.call K (.block 0 :: ks) [(9, x), (10, y), (11, .int .i64 i)] H L := by
  have hxl := hx.lenS
  intro m
  induction m with
  | zero =>
    intro i hi hd
    refine W_loopN hL ?_
    have hi' : i = nn := by omega
    subst hi'
    have hlt : ((i : Int) < (i : Int)) = False := eq_false (by omega)
    simp only [Tryd.fn5_l0, Tryd.fn5_r12, hxl, hlt, AmR, kp, pushA, exe, Arg.val, Env.at, lk, putd, ok1, okM, abin, Option.getD_some, if_true, if_false, Nat.reduceEqDiff, decide_false, Option.map_some, ↓exe_lenl]
    exact hd _ _
  | succ m ih =>
    intro i hi hd
    refine W_loopN hL ?_
    have h0 : (0 : Int) ≤ (i : Int) := by omega
    have h1 : ((i : Int) < (nn : Int)) = True := eq_true (by omega)
    have hw := succ_wrap (i := i) (by omega)
    have row : ∀ z, SliceV H 2 z nn (tabF nn f g) → ∃ q o c, z = .sl q o 2 nn c ∧ H.cellsAt q (o + i * 2) 2 = some [.int .i64 (f i : Nat), .int .i64 (g i : Nat)] := fun z hz => by
      rcases hz.cases with ⟨rfl, h, _⟩ | ⟨rfl, h, _⟩ | ⟨q1, o, cc, bm, rfl, hbm, hlm, hcm⟩
      · omega
      · omega
      refine ⟨q1, o, cc, rfl, ?_⟩
      have g0 : bm.cells[o + i * 2]? = some (.int .i64 (f i : Nat)) := by
        have := congrArg (fun l => l[i * 2]?) hcm
        rw [tabF_at0 nn _ _ i (by omega), List.getElem?_take, if_pos (by omega), List.getElem?_drop] at this
        exact this
      have g1 : bm.cells[o + i * 2 + 1]? = some (.int .i64 (g i : Nat)) := by
        have := congrArg (fun l => l[i * 2 + 1]?) hcm
        rw [tabF_at1 nn _ _ i (by omega), List.getElem?_take, if_pos (by omega), List.getElem?_drop] at this
        rw [Nat.add_assoc]
        exact this
      unfold AH.cellsAt
      rw [hbm]
      show (if o + i * 2 + 2 ≤ bm.cells.length then some ((bm.cells.drop (o + i * 2)).take 2) else none) = _
      rw [if_pos (by omega), drop_cons' g0, drop_cons' g1]
      rfl
    obtain ⟨qx, ox, cx, rfl, gx⟩ := row x hx
    obtain ⟨qy, oy, cy, rfl, gy⟩ := row y hy
    have heq : aeqs [(0, none, ETy.int), (1, none, ETy.int)] [.int .i64 (f i : Nat), .int .i64 (g i : Nat)] [.int .i64 (f i : Nat), .int .i64 (g i : Nat)] = some true := by simp [aeqs, aeq]
    have hNg : ∀ nx fl q o n, (AH.mk H.blks nx fl).cellsAt q o n = H.cellsAt q o n := fun _ _ _ _ _ => rfl
    have hnew := hN.new
    simp only [Tryd.fn5_l0, Tryd.fn5_r12, hxl, h1, AmR, kp, pushA, exe, Arg.val, Env.at, lk, putd, ok1, okM, abin, Option.getD_some, if_true, if_false, Nat.reduceEqDiff, decide_true, Option.map_some, ↓exe_lenl]
    refine W_drawn' (by kernel_rfl) ?_
    simp only [Tryd.fn5_r13, Tryd.fn5_r13a, hNg, gx, gy, h0, h1, heq, hnew, Int.toNat_natCast, and_self, AmR, kp, pushA, exe, Arg.val, Env.at, lk, putd, ok1, okM, Option.getD_some, if_true, if_false, Nat.reduceEqDiff, Nat.reduceAdd, true_and, List.nil_append, visH, List.filter_nil, List.flatMap_nil, List.contains_cons, List.contains_nil, Bool.or_false, Option.map_some, aeqv, bne_self_eq_false]
    simp only [Tryd.fn5_r15, hw, AmR, kp, exe, Arg.val, Env.at, lk, putd, ok1, okM, abin, Option.getD_some, if_true, if_false, Nat.reduceEqDiff]
    exact ih (i + 1) (by omega) hd

theorem Tryd.lawExports (H : AH) (hNm : Names H) (hfl : H.floor ≤ H.next) (v : AV) (l : List OutR) (hv : SliceV H 9 v l.length (rowsOf OutR.cells l)) (n : Int) {P : Prop} (_ : P) : ∃ H', Tryd.call 5 [v, .int .i64 n] H = some (.ok (.bool true), H') := by
  refine ⟨H, ?_⟩
  obtain ⟨w, bs, kq, hvw, sw, hN0, _, hw⟩ := views_one hv (outs_flat l) 6 (rest := [.int .i64 n]) (us := [.int .i64 n]) fun k => views_flat rfl (views_nil H k)
  refine ecall_flat 6 [] _ _ (out := [.bool true]) rfl rfl rfl hvw rfl ?_
  show W Tryd.call _ _ _ _ _
  generalize hH : (⟨bs ++ [], kq, kq⟩ : AH) = H0 at *
  have hn : H0.next = kq := by rw [← hH]
  subst hn
  have hlv := Tryd.lives H0
  have hsh := Tryd.short w l H0 sw
  simp only [Tryd.fn5, Tryd.fn5_r0, Tryd.fn5_r1, hlv, AmR, kp, pushA, exe, number, Arg.val, Env.at, lk, putd, ok1, okM, Option.getD_some, if_true, if_false, Bool.not_true, reduceCtorEq, Nat.reduceEqDiff, Nat.reduceAdd, aun, List.map_nil]
  cases hb : shortB l with
  | false =>
    rw [hb] at hsh
    simp only [Tryd.fn5_r3, hsh, AmR, kp, pushA, exe, Arg.val, Env.at, lk, putd, ok1, okM, Option.getD_some, if_true, if_false, Bool.not_false, reduceCtorEq, Nat.reduceEqDiff, aun, List.map_cons, List.map_nil]
    simp only [Tryd.fn5_r4, AmR, kp, exe, Arg.val, Env.at, lk, putd, ok1, Option.getD_some, if_true, if_false, reduceCtorEq, Nat.reduceEqDiff, resAll, resOf]
  | true =>
    rw [hb] at hsh
    have hl : l.length ≤ 300 := by
      unfold shortB at hb
      simp only [Bool.and_eq_true, decide_eq_true_eq] at hb
      exact hb.1.1
    have x1 := Tryd.export w l (by omega) H0 sw
    have x2 := Tryd.exportRef w l (by omega) H0 sw
    obtain ⟨u1, H1, a1, a2, a3, a4, a5⟩ := Tryd.counts w l (by omega) n H0 hN0 sw
    have sw1 := sw.grow a3 hw
    obtain ⟨u2, H2, b1, b2, b3, b4, b5⟩ := Tryd.countsRef w l (by omega) n H1 a4 sw1
    have s1 := a2.grow b3 a5
    have l1 := s1.lenS
    have l2 := b2.lenS
    have hn16 : nnOf n ≤ 16 := by unfold nnOf; omega
    simp only [Tryd.fn5_r3, hsh, AmR, kp, pushA, exe, Arg.val, Env.at, lk, putd, ok1, okM, Option.getD_some, if_true, if_false, Bool.not_true, reduceCtorEq, Nat.reduceEqDiff, aun, List.map_cons, List.map_nil]
    simp only [Tryd.fn5_r5, x1, AmR, kp, exe, Arg.val, Env.at, lk, putd, ok1, okM, Option.getD_some, if_true, if_false, List.getElem?_cons_zero, List.getElem?_cons_succ, reduceCtorEq, Nat.reduceEqDiff, List.map_cons, List.map_nil]
    simp only [Tryd.fn5_r6, x2, AmR, kp, exe, Arg.val, Env.at, lk, putd, ok1, okM, Option.getD_some, if_true, if_false, List.getElem?_cons_zero, List.getElem?_cons_succ, reduceCtorEq, Nat.reduceEqDiff, List.map_cons, List.map_nil]
    simp only [Tryd.fn5_r7, a1, b1, AmR, kp, exe, Arg.val, Env.at, lk, putd, ok1, Option.getD_some, if_true, if_false, reduceCtorEq, Nat.reduceEqDiff, List.map_cons, List.map_nil]
    simp only [Tryd.fn5_r8, bne_self_eq_false, AmR, Rf_nbeq, kp, exe, Arg.val, Env.at, lk, putd, ok1, okM, abin, Option.getD_some, if_true, if_false, Nat.reduceEqDiff, Bool.false_eq_true, bne_self_eq_false]
    simp only [Tryd.fn5_r9, l1, l2, bne_self_eq_false, AmR, kp, pushA, exe, Arg.val, Env.at, lk, putd, ok1, okM, abin, Option.getD_some, if_true, if_false, Nat.reduceEqDiff, Bool.false_eq_true, Option.map_some, bne_self_eq_false, ↓exe_lenl]
    refine ⟨fun _ => ?_, fun h => absurd trivial h⟩
    simp only [Tryd.fn5_r11, AmR, kp, exe, Arg.val, Env.at, lk, putd, ok1, Option.getD_some, if_true, if_false, Nat.reduceEqDiff]
    refine Tryd.eqLoop (cn0 l) (cn1 l) (nnOf n) hn16 u1 u2 H2 b4 s1 b2 _ _ _ rfl (nnOf n) 0 (by omega) fun a b => ?_
    simp only [Tryd.fn5_r16, AmR, kp, exe, Arg.val, Env.at, lk, putd, ok1, Option.getD_some, if_true, if_false, Nat.reduceEqDiff, resAll, resOf]

end Go.Am
