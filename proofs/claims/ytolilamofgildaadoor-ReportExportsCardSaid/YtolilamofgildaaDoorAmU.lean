/-
Counts, of the program. Conditions: those that each theorem names.
-/
import Derived.Test.YtolilamofgildaaDoorAmT
set_option linter.unusedSimpArgs false
set_option linter.unusedVariables false
namespace Go.Am

theorem store_names {H H' : AH} {i o : Nat} {vs : List AV} (h : H.store i o vs = some H') (hN : Names H) : Names H' := by
  unfold AH.store at h
  split at h
  · cases h
  · split at h
    · split at h
      · cases h
      · split at h
        · cases h; exact hN.put _ _
        · cases h
    · cases h

theorem Tryd.cntLoop (l : List OutR) (hl : l.length ≤ 1000000) (u : AV) (H0 : AH) (hv : SliceV H0 9 u l.length (rowsOf OutR.cells l)) (nl : ∀ i o z n c, u = .sl i o z n c → i < H0.next) (hfl0 : H0.floor ≤ H0.next) (nn : Nat) (hnn : nn ≤ 16) (q : Nat) (hq0 : H0.next ≤ q) (K : AX → St → Prop) (ks : List Fr) (L : ACode) (hL : L = .loop (some [5, 13, 14, 15]) Tryd.fn15_l0) :
    ∀ (m i : Nat) (H : AH), m + i = l.length → Own H 35 2 q nn (some nn) (tabF nn (cn0 (l.take i)) (cn1 (l.take i))) → Kept H0.next H0 H → Names H →
      (∀ H' a b, Own H' 35 2 q nn (some nn) (tabF nn (cn0 l) (cn1 l)) → Kept H0.next H0 H' → Names H' → Nx Tryd.call K ks [(16, .bool false), (5, .sl q 0 2 nn (some nn)), (13, u), (14, .int .i64 l.length), (15, a), (16, b)] H') →
      W Tryd.call K (.block 0 :: ks) [(5, .sl q 0 2 nn (some nn)), (13, u), (14, .int .i64 l.length), (15, .int .i64 i)] H L := by
  intro m
  induction m with
  | zero =>
    intro i H hi ho hK hN hd
    refine W_loopN hL ?_
    have hi' : i = l.length := by omega
    subst hi'
    have hlt : ((l.length : Int) < (l.length : Int)) = False := eq_false (by omega)
    rw [List.take_length] at ho
    simp only [Tryd.fn15_l0, Tryd.fn15_r5, hlt, AmR, kp, pushA, exe, Arg.val, Env.at, lk, putd, okM, abin, Option.getD_some, if_true, if_false, Nat.reduceEqDiff, decide_false]
    exact hd H _ _ ho hK hN
  | succ m ih =>
    intro i H hi ho hK hN hd
    refine W_loopN hL ?_
    obtain ⟨x, hx⟩ : ∃ x, l[i]? = some x := ⟨_, List.getElem?_eq_getElem (by omega)⟩
    have h0 : (0 : Int) ≤ (i : Int) := by omega
    have h1 : ((i : Int) < (l.length : Int)) = True := eq_true (by omega)
    have hw := succ_wrap (i := i) (by omega)
    have hfl : H.floor ≤ H.next := by have := hK.1; have := hK.2.1; omega
    have hqn : q < H.next := by obtain ⟨_, _, _, _, h, _⟩ := ho; exact h
    have st := store_push H 40 true [.int .i64 0, .int .i64 0, .int .i64 0, .int .i64 0, .int .i64 0, .int .i64 0, .int .i64 0, .str [], .int .i64 0] x.cells hfl rfl x.sol
    have gn := get_push_new H 40 true x.cells
    have c0 : x.cells[0]? = some (.int .i64 x.node) := rfl
    have c8 : x.cells[8]? = some (.int .i64 x.ev.ft) := rfl
    have l9 := x.cells_len
    have hK1 : Kept H0.next H0 (H.push 40 true x.cells) := hK.trans (Kept.push _ _ hK.2.1 _ _ _)
    have hN1 := hN.push 40 true x.cells
    have ho1 : Own (H.push 40 true x.cells) 35 2 q nn (some nn) (tabF nn (cn0 (l.take i)) (cn1 (l.take i))) := by
      obtain ⟨o1, o2, o3, o4, o5, wh, s0, o6⟩ := ho
      exact ⟨o1, o2, o3, o4, Nat.lt_succ_of_lt o5, wh, s0, (get_push_old _ _ _ _ o5).trans o6⟩
    have sv : SliceV H 9 u l.length (rowsOf OutR.cells l) := hv.old nl hK.2.2
    rcases sv.cases with ⟨rfl, h, _⟩ | ⟨rfl, h, _⟩ | ⟨q1, o, cc, bm, rfl, hbm, hlm, hcm⟩
    · omega
    · omega
    have cm : H.cellsAt q1 (o + i * 9) 9 = some x.cells := cellsAt_rowO OutR.cells_len hbm hlm hcm hx
    have next := ih (i + 1)
    simp only [Tryd.fn15_l0, Tryd.fn15_r5, h1, AmR, kp, pushA, exe, Arg.val, Env.at, lk, putd, okM, abin, Option.getD_some, if_true, if_false, Nat.reduceEqDiff, decide_true]
    simp only [Tryd.fn15_r6, h0, h1, Int.toNat_natCast, and_self, cm, l9, st, AmR, kp, exe, Arg.val, Env.at, lk, putd, AV.cells?, ok1, okM, Option.getD_some, if_true, if_false, Nat.reduceEqDiff, Option.map_some]
    have same : ¬ (∃ j : Nat, j < nn ∧ x.node = (j : Int)) → tabF nn (cn0 (l.take (i + 1))) (cn1 (l.take (i + 1))) = tabF nn (cn0 (l.take i)) (cn1 (l.take i)) := fun h => tabF_ext _ _ _ _ _ fun j hj => by
      rw [cn0_step hx, cn1_step hx, if_neg (fun e => h ⟨j, hj, e⟩), if_neg (fun e => h ⟨j, hj, e.1⟩)]
      exact ⟨rfl, rfl⟩
    by_cases hneg : x.node < 0
    · have e1 : (x.node < 0) = True := eq_true hneg
      simp only [Tryd.fn15_r7, gn, c0, e1, Nat.zero_add, AmR, kp, pushA, exe, Arg.val, Env.at, lk, putd, ok1, okM, abin, Option.getD_some, if_true, if_false, reduceCtorEq, Nat.reduceEqDiff, decide_true]
      simp only [Tryd.fn15_r11, hw, AmR, kp, exe, Arg.val, Env.at, lk, putd, ok1, okM, abin, Option.getD_some, if_true, if_false, Nat.reduceEqDiff]
      exact next _ (by omega) (by rw [same (fun ⟨j, _, e⟩ => by omega)]; exact ho1) hK1 hN1 hd
    have e1 : (x.node < 0) = False := eq_false hneg
    by_cases hge : x.node ≥ (nn : Int)
    · have e2 : (x.node ≥ (nn : Int)) = True := eq_true hge
      simp only [Tryd.fn15_r7, gn, c0, e1, e2, Nat.zero_add, AmR, kp, pushA, exe, Arg.val, Env.at, lk, putd, ok1, okM, abin, Option.getD_some, if_true, if_false, reduceCtorEq, Nat.reduceEqDiff, decide_true, decide_false, Bool.false_eq_true, Option.map_some, ↓exe_lenl, lenS_sl]
      simp only [Tryd.fn15_r11, hw, AmR, kp, exe, Arg.val, Env.at, lk, putd, ok1, okM, abin, Option.getD_some, if_true, if_false, Nat.reduceEqDiff]
      exact next _ (by omega) (by rw [same (fun ⟨j, _, e⟩ => by omega)]; exact ho1) hK1 hN1 hd
    have e2 : (x.node ≥ (nn : Int)) = False := eq_false hge
    obtain ⟨j, hj⟩ : ∃ j : Nat, x.node = (j : Int) := ⟨x.node.toNat, by omega⟩
    simp only [Tryd.fn15_r7, gn, c0, e1, e2, Nat.zero_add, AmR, kp, pushA, exe, Arg.val, Env.at, lk, putd, ok1, okM, abin, Option.getD_some, if_true, if_false, Nat.reduceEqDiff, decide_false, Bool.false_eq_true, Option.map_some, ↓exe_lenl, lenS_sl]
    refine W_drawn' (by kernel_rfl) ?_
    rw [hj] at c0 e1 e2
    have hjn : j < nn := by omega
    have j0 : (0 : Int) ≤ (j : Int) := by omega
    have j1 : ((j : Int) < (nn : Int)) = True := eq_true (by omega)
    have b0 : cn0 (l.take i) j ≤ 1000000 := by have := cn0_le (l.take i) j; rw [List.length_take] at this; omega
    have b1 : cn1 (l.take i) j ≤ 1000000 := by have := cn1_le (l.take i) j; omega
    have w0 := succ_wrap (i := cn0 (l.take i) j) (by omega)
    have w1 := succ_wrap (i := cn1 (l.take i) j) (by omega)
    have tl := tabF_len nn (cn0 (l.take i)) (cn1 (l.take i))
    have t0 := tabF_at0 nn (cn0 (l.take i)) (cn1 (l.take i)) j hjn
    have f0 : cn0 (l.take i) j + 1 = cn0 (l.take (i + 1)) j := by rw [cn0_step hx, if_pos hj]
    obtain ⟨H2, s1, s2, s3, s4, s5⟩ := ho1.store (o := j * 2) (v := .int .i64 ((cn0 (l.take i) j + 1 : Nat) : Int)) (by omega) rfl
    have ho2 := ho1
    obtain ⟨_, _, _, _, _, wh, sc0, gq⟩ := ho1
    generalize hH1 : H.push 40 true x.cells = H1 at *
    have hNg : ∀ nx fl j, (AH.mk H1.blks nx fl).get j = H1.get j := fun _ _ _ => rfl
    have hnew := hN1.new
    simp only [Tryd.fn15_r8, Tryd.fn15_r8a, gn, c0, gq, j0, j1, t0, w0, s1, Int.toNat_natCast, and_self, Nat.zero_add, Nat.add_zero, AmR, kp, exe, Arg.val, Env.at, lk, putd, AV.cells?, ok1, okM, abin, Option.getD_some, if_true, if_false, Nat.reduceEqDiff, Nat.reduceAdd, Nat.reduceMul, true_and, List.nil_append, visH, List.flatMap_nil, List.length_cons, List.length_nil, Option.map_some, Int.reduceLT, Int.reduceLE, Int.reduceToNat, Int.cast_ofNat_Int]
    have s2' : Own H2 35 2 q nn (some nn) (tabF nn (cn0 (l.take (i + 1))) (cn1 (l.take i))) := by
      rw [f0, tabF_set0 nn (cn0 (l.take i)) (cn0 (l.take (i + 1))) (cn1 (l.take i)) j hjn fun i' hi' => by rw [cn0_step hx, if_neg (by omega)]; rfl] at s2
      exact s2
    have gn2 : H2.get H.next = some ⟨x.cells, false, 40, true, true⟩ := (s5 _ (by omega)).trans gn
    have hK2 : Kept H0.next H0 H2 := ⟨s3.trans hK1.1, by rw [s4]; exact hK1.2.1, fun i' hi' => (s5 i' (by omega)).trans (hK1.2.2 i' hi')⟩
    have hN2 : Names H2 := store_names s1 hN1
    have e5 : ∀ j', j' ≠ j → cn1 (l.take (i + 1)) j' = cn1 (l.take i) j' := fun j' h => by rw [cn1_step hx, if_neg (fun e => by have := e.1; omega)]; rfl
    by_cases hft : x.ev.ft = 0
    · have e3 : (x.ev.ft != 0) = false := by rw [hft]; rfl
      have e4 : cn1 (l.take (i + 1)) j = cn1 (l.take i) j := by rw [cn1_step hx, if_neg (fun h => h.2 hft)]; rfl
      simp only [Tryd.fn15_r9, gn2, c8, e3, Nat.zero_add, Nat.reduceAdd, AmR, kp, pushA, exe, Arg.val, Env.at, lk, putd, ok1, okM, abin, Option.getD_some, if_true, if_false, Nat.reduceEqDiff, Nat.reduceAdd]
      simp only [Tryd.fn15_r11, hw, AmR, kp, exe, Arg.val, Env.at, lk, putd, ok1, okM, abin, Option.getD_some, if_true, if_false, Nat.reduceEqDiff]
      refine next _ (by omega) ?_ hK2 hN2 hd
      rw [tabF_ext nn _ (cn0 (l.take (i + 1))) (cn1 (l.take (i + 1))) (cn1 (l.take i)) fun j' _ => ⟨rfl, (Decidable.em (j' = j)).elim (fun h => by rw [h, e4]) (fun h => e5 j' h)⟩]
      exact s2'
    · have e3 : (x.ev.ft != 0) = true := by simpa using hft
      have f1 : cn1 (l.take i) j + 1 = cn1 (l.take (i + 1)) j := by rw [cn1_step hx, if_pos ⟨hj, hft⟩]
      have tl2 := tabF_len nn (cn0 (l.take (i + 1))) (cn1 (l.take i))
      have t1 := tabF_at1 nn (cn0 (l.take (i + 1))) (cn1 (l.take i)) j hjn
      obtain ⟨H3, r1, r2, r3, r4, r5⟩ := s2'.store (o := j * 2 + 1) (v := .int .i64 ((cn1 (l.take i) j + 1 : Nat) : Int)) (by omega) rfl
      obtain ⟨_, _, _, _, _, wh2, sc2, gq2⟩ := s2'
      have hK3 : Kept H0.next H0 H3 := ⟨r3.trans hK2.1, by rw [r4]; exact hK2.2.1, fun i' hi' => (r5 i' (by omega)).trans (hK2.2.2 i' hi')⟩
      have hN3 : Names H3 := store_names r1 hN2
      have r2' : Own H3 35 2 q nn (some nn) (tabF nn (cn0 (l.take (i + 1))) (cn1 (l.take (i + 1)))) := by
        rw [f1, tabF_set1 nn (cn0 (l.take (i + 1))) (cn1 (l.take i)) (cn1 (l.take (i + 1))) j hjn e5] at r2
        exact r2
      have hNg2 : ∀ nx fl j, (AH.mk H2.blks nx fl).get j = H2.get j := fun _ _ _ => rfl
      have hnew2 := hN2.new
      simp only [Tryd.fn15_r9, gn2, c8, e3, Nat.zero_add, Nat.reduceAdd, AmR, kp, pushA, exe, Arg.val, Env.at, lk, putd, ok1, okM, abin, Option.getD_some, if_true, if_false, Nat.reduceEqDiff, Nat.reduceAdd]
      refine W_drawn' (by kernel_rfl) ?_
      simp only [Tryd.fn15_r10, Tryd.fn15_r10a, gn2, c0, gq2, j0, j1, t1, w1, r1, Int.toNat_natCast, and_self, Nat.zero_add, Nat.add_zero, AmR, kp, exe, Arg.val, Env.at, lk, putd, AV.cells?, ok1, okM, abin, Option.getD_some, if_true, if_false, Nat.reduceEqDiff, Nat.reduceAdd, Nat.reduceMul, true_and, List.nil_append, visH, List.flatMap_nil, List.length_cons, List.length_nil, Option.map_some, Int.reduceLT, Int.reduceLE, Int.reduceToNat, Int.cast_ofNat_Int]
      simp only [Tryd.fn15_r11, hw, AmR, kp, exe, Arg.val, Env.at, lk, putd, ok1, okM, abin, Option.getD_some, if_true, if_false, Nat.reduceEqDiff]
      exact next _ (by omega) r2' hK3 hN3 hd

theorem tabF_zero : ∀ (n : Nat), (List.replicate n [AV.int .i64 0, AV.int .i64 0]).flatten = tabF n (cn0 []) (cn1 [])
  | 0 => rfl
  | n + 1 => by rw [List.replicate_succ', List.flatten_append, tabF_zero n, tabF]; rfl

theorem Tryd.counts (v : AV) (l : List OutR) (hl : l.length ≤ 1000000) (n : Int) (H : AH) (hN : Names H) (hv : SliceV H 9 v l.length (rowsOf OutR.cells l)) :
    ∃ u H', Tryd.call 15 [v, .int .i64 n] H = some (.ok u, H') ∧ SliceV H' 2 u (nnOf n) (tabF (nnOf n) (cn0 l) (cn1 l)) ∧ Grow H H' ∧ Names H' ∧ ∀ i o z m c, u = .sl i o z m c → i < H'.next := by
  obtain ⟨w, bs, kq, hvw, sw, hN0, _, hw⟩ := views_one hv (outs_flat l) 6 (rest := [.int .i64 n]) (us := [.int .i64 n]) fun k => views_flat rfl (views_nil H k)
  obtain ⟨vs, H', ⟨u, rfl, h1, h2, h3, h4⟩, hc⟩ := ecall_vE 6 [] (lk Tryd.ext) (lk Tryd.tab) (f := 15) (fn := Tryd.fn15) (args := [v, .int .i64 n]) (H := H) (R := fun vs H' => ∃ u, vs = [u] ∧ SliceV H' 2 u (nnOf n) (tabF (nnOf n) (cn0 l) (cn1 l)) ∧ Grow H H' ∧ Names H' ∧ ∀ i o z m c, u = .sl i o z m c → i < H'.next) rfl rfl rfl hvw (by
    show W Tryd.call _ _ _ _ _
    generalize hH : (⟨bs ++ [], kq, kq⟩ : AH) = H0 at *
    have hn : H0.next = kq := by rw [← hH]
    have hfl : H0.floor = H0.next := by rw [← hH]
    subst hn
    have hwl := sw.lenS
    by_cases hneg : n < 0
    · have e1 : (n < 0) = True := eq_true hneg
      have hnn : nnOf n = 0 := by unfold nnOf; omega
      simp only [Tryd.fn15, Tryd.fn15_r0, AmR, kp, exe, number, Arg.val, Env.at, lk, putd, ok1, Option.getD_some, if_true, if_false, reduceCtorEq, Nat.reduceEqDiff, Nat.reduceAdd]
      simp only [Tryd.fn15_r1, e1, AmR, kp, pushA, exe, Arg.val, Env.at, lk, putd, ok1, okM, abin, Option.getD_some, if_true, if_false, reduceCtorEq, Nat.reduceEqDiff, decide_true]
      simp only [Tryd.fn15_r2, endK_ret, AmR, kp, exe, Arg.val, Env.at, lk, putd, ok1, Option.getD_some, if_true, if_false, reduceCtorEq, Nat.reduceEqDiff, resAll, resOf, Option.some.injEq, exists_eq_left']
      refine back_flat rfl ⟨.nils, rfl, ?_, Grow.refl _, hN, fun _ _ _ _ _ e => by cases e⟩
      rw [hnn]; exact .nil
    · have e1 : (n < 0) = False := eq_false hneg
      simp only [Tryd.fn15, Tryd.fn15_r0, AmR, kp, exe, number, Arg.val, Env.at, lk, putd, ok1, Option.getD_some, if_true, if_false, reduceCtorEq, Nat.reduceEqDiff, Nat.reduceAdd]
      simp only [Tryd.fn15_r1, e1, AmR, kp, pushA, exe, Arg.val, Env.at, lk, putd, ok1, okM, abin, Option.getD_some, if_true, if_false, reduceCtorEq, Nat.reduceEqDiff, decide_false]
      have hm : (if 16 < n then 16 else n) = ((nnOf n : Nat) : Int) := by unfold nnOf; split <;> omega
      have hn16 : nnOf n ≤ 16 := by unfold nnOf; omega
      generalize nnOf n = nn at *
      have g1 : (0 : Int) ≤ (nn : Int) := by omega
      have g2 : nn * 16 ≤ 140737488351232 ∧ (nn : Int) ≤ 140737488351232 := by omega
      have g3 : (nn : Int) ≤ (nn : Int) := Int.le_refl _
      have ho : Own (H0.push 35 false (tabF nn (cn0 []) (cn1 []))) 35 2 H0.next nn (some nn) (tabF nn (cn0 (l.take 0)) (cn1 (l.take 0))) := own_new H0 35 false _ (some nn) (by omega) (tabF_len _ _ _) (.inl rfl) (by omega)
      simp only [Tryd.fn15_r3, hm, g1, g2, g3, and_self, Int.toNat_natCast, tabF_zero, AmR, kp, exe, Arg.val, Env.at, lk, putd, ok1, Option.getD_some, if_true, if_false, reduceCtorEq, Nat.reduceEqDiff, Nat.reduceAdd, List.length_cons, List.length_nil, rep]
      simp only [Tryd.fn15_r4, hwl, AmR, kp, exe, Arg.val, Env.at, lk, putd, ok1, okM, Option.getD_some, if_true, if_false, reduceCtorEq, Nat.reduceEqDiff, Option.map_some, ↓exe_lenl]
      refine Tryd.cntLoop l hl w H0 sw hw (by omega) nn hn16 H0.next (Nat.le_refl _) _ _ _ rfl l.length 0 _ (by omega) ho (Kept.push _ _ (Nat.le_refl _) _ _ _) (hN0.push _ _ _) fun H1 a b k1 k2 k3 => ?_
      simp only [Tryd.fn15_r12, endK_ret, AmR, kp, exe, Arg.val, Env.at, lk, putd, ok1, Option.getD_some, if_true, if_false, Nat.reduceEqDiff, resAll, resOf, Option.some.injEq, exists_eq_left']
      obtain ⟨_, o2, _, _, _, wh, s0, o6⟩ := k1
      refine back_slice (Nat.le_refl _) o6 rfl (tabF_flat _ _ _) rfl ⟨_, rfl, ?_, Grow.take1 _ _, ?_, fun _ _ _ _ _ e => by cases e; exact Nat.lt_succ_self _⟩
      · have := SliceV.sl (H := H.take1 ⟨tabF nn (cn0 l) (cn1 l), false, 35, wh, s0⟩) (z := 2) (i := H.next) (o := 0) (n := nn) (c := some nn) (get_take1 _ _) (by show 0 + nn * 2 ≤ (tabF nn (cn0 l) (cn1 l)).length; rw [tabF_len]; omega)
        rw [List.drop_zero, List.take_of_length_le (by show (tabF nn (cn0 l) (cn1 l)).length ≤ _; rw [tabF_len]; omega)] at this
        exact this
      · intro x hx
        show x.1 < H.next + 1
        rcases List.mem_cons.1 hx with rfl | hx
        · exact Nat.lt_succ_self _
        · have := hN x hx; omega)
  exact ⟨u, H', hc, h1, h2, h3, h4⟩

end Go.Am
