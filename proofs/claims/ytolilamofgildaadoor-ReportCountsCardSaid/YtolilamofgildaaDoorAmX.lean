/-
The law of counts: its loops. Conditions: those that each theorem names.
-/
import Derived.Test.YtolilamofgildaaDoorAmV
set_option linter.unusedSimpArgs false
set_option linter.unusedVariables false
namespace Go.Am

def sumF (f : Nat → Nat) : Nat → Nat
  | 0 => 0
  | n + 1 => sumF f n + f n

/-- The outs of the first nodes. -/
def inN (k : Nat) (x : OutR) : Bool := decide (0 ≤ x.node) && decide (x.node < (k : Int))

theorem sum_in (l : List OutR) : ∀ k, sumF (cn0 l) k = l.countP (inN k)
  | 0 => by
    induction l with
    | nil => rfl
    | cons x l ih =>
      have : inN 0 x = false := by
        unfold inN
        by_cases h : 0 ≤ x.node
        · rw [decide_eq_false (show ¬ x.node < ((0 : Nat) : Int) by omega), Bool.and_false]
        · rw [decide_eq_false h]; rfl
      rw [List.countP_cons, this]
      exact ih
  | k + 1 => by
    rw [sumF, sum_in l k]
    unfold cn0
    induction l with
    | nil => rfl
    | cons x l ih =>
      have hx : (if inN (k + 1) x = true then 1 else 0) = (if inN k x = true then 1 else 0) + (if (x.node == (k : Int)) = true then 1 else 0) := by
        unfold inN
        by_cases h : 0 ≤ x.node <;> by_cases h2 : x.node = (k : Int) <;> by_cases h3 : x.node < (k : Int) <;> by_cases h4 : x.node < ((k + 1 : Nat) : Int) <;> simp [h, h2, h3] <;> omega
      rw [List.countP_cons, List.countP_cons, List.countP_cons, hx]
      omega

theorem Tryd.sumLoop (l : List OutR) (hl : l.length ≤ 300) (v u : AV) (H : AH) (hN : Names H) (hv : lenS v = some l.length) (hu : SliceV H 2 u 16 (tabF 16 (cn0 l) (cn1 l))) (K : AX → St → Prop) (ks : List Fr) (L : ACode) (hL : L = .loop (some [0, 3, 4, 5, 6]) Tryd.fn6_l1) :
    ∀ (m i : Nat), m + i = 16 → (∀ a b, Nx Tryd.call K ks [(33, .bool false), (0, v), (3, u), (4, .int .i64 0), (5, .int .i64 (sumF (cn0 l) 16 : Nat)), (6, a), (33, b)] H) →
      W Tryd.call K (.block 0 :: ks) [(0, v), (3, u), (4, .int .i64 0), (5, .int .i64 (sumF (cn0 l) i : Nat)), (6, .int .i64 i)] H L := by
  have hul := hu.lenS
  intro m
  induction m with
  | zero =>
    intro i hi hd
    refine W_loopN hL ?_
    have hi' : i = 16 := by omega
    subst hi'
    have hlt : ((16 : Int) < 16) = False := eq_false (by omega)
    simp only [Tryd.fn6_l1, Tryd.fn6_r11, hul, hlt, AmR, kp, pushA, exe, Arg.val, Env.at, lk, putd, ok1, okM, abin, Option.getD_some, if_true, if_false, reduceCtorEq, Nat.reduceEqDiff, decide_false, Option.map_some, Int.cast_ofNat_Int, ↓exe_lenl]
    exact hd _ _
  | succ m ih =>
    intro i hi hd
    refine W_loopN hL ?_
    have h0 : (0 : Int) ≤ (i : Int) := by omega
    have h1 : ((i : Int) < 16) = True := eq_true (by omega)
    have hw := succ_wrap (i := i) (by omega)
    rcases hu.cases with ⟨rfl, h, _⟩ | ⟨rfl, h, _⟩ | ⟨q1, o, cc, bm, rfl, hbm, hlm, hcm⟩
    · omega
    · omega
    have g0 : bm.cells[o + i * 2]? = some (.int .i64 (cn0 l i : Nat)) := by
      have := congrArg (fun l => l[i * 2]?) hcm
      rw [tabF_at0 16 _ _ i (by omega), List.getElem?_take, if_pos (by omega), List.getElem?_drop] at this
      exact this
    have g1 : bm.cells[o + i * 2 + 1]? = some (.int .i64 (cn1 l i : Nat)) := by
      have := congrArg (fun l => l[i * 2 + 1]?) hcm
      rw [tabF_at1 16 _ _ i (by omega), List.getElem?_take, if_pos (by omega), List.getElem?_drop] at this
      rw [Nat.add_assoc]
      exact this
    have b0 := cn0_le l i
    have b1 := cn1_le l i
    have n0 : (((cn0 l i : Nat) : Int) < 0) = False := eq_false (by omega)
    have n1 : (((cn0 l i : Nat) : Int) > (l.length : Int)) = False := eq_false (by omega)
    have n2 : (((cn1 l i : Nat) : Int) < 0) = False := eq_false (by omega)
    have n3 : (((cn1 l i : Nat) : Int) > ((cn0 l i : Nat) : Int)) = False := eq_false (by omega)
    have hNg : ∀ nx fl j, (AH.mk H.blks nx fl).get j = H.get j := fun _ _ _ => rfl
    have hnew := hN.new
    have hsb : sumF (cn0 l) i ≤ 300 * i := by
      have : ∀ k, sumF (cn0 l) k ≤ 300 * k := fun k => by
        induction k with
        | zero => exact Nat.le_refl _
        | succ k ih => have := cn0_le l k; rw [sumF]; omega
      exact this i
    have ws := add_wrapV (a := sumF (cn0 l) i) (b := cn0 l i) (by omega)
    simp only [Tryd.fn6_l1, Tryd.fn6_r11, hul, h1, AmR, kp, pushA, exe, Arg.val, Env.at, lk, putd, ok1, okM, abin, Option.getD_some, if_true, if_false, reduceCtorEq, Nat.reduceEqDiff, decide_true, Option.map_some, Int.cast_ofNat_Int, ↓exe_lenl]
    refine W_drawn' (by kernel_rfl) ?_
    simp only [Tryd.fn6_r12, Tryd.fn6_r12a, Tryd.fn6_r12b, Tryd.fn6_r12c, Tryd.fn6_r12d, Tryd.fn6_r12e, Tryd.fn6_r12f, hNg, hbm, g0, g1, h0, h1, hv, n0, n1, n2, n3, hnew, Int.toNat_natCast, and_self, Nat.add_zero, AmR, kp, pushA, exe, Arg.val, Env.at, lk, putd, ok1, okM, abin, Option.getD_some, if_true, if_false, reduceCtorEq, Nat.reduceEqDiff, Nat.reduceAdd, Nat.reduceMul, decide_false, Bool.false_eq_true, true_and, List.nil_append, visH, List.filter_nil, List.flatMap_nil, List.contains_cons, List.contains_nil, Bool.or_false, Option.map_some, Int.reduceLT, Int.reduceLE, Int.reduceToNat, Int.cast_ofNat_Int, ↓exe_lenl]
    simp only [Tryd.fn6_r14, hbm, g0, h0, h1, ws, Int.toNat_natCast, and_self, Nat.add_zero, AmR, kp, exe, Arg.val, Env.at, lk, putd, ok1, okM, abin, Option.getD_some, if_true, if_false, reduceCtorEq, Nat.reduceEqDiff, Nat.reduceMul, Int.reduceLT, Int.reduceLE, Int.reduceToNat, Int.cast_ofNat_Int]
    simp only [Tryd.fn6_r15, hw, AmR, kp, exe, Arg.val, Env.at, lk, putd, ok1, okM, abin, Option.getD_some, if_true, if_false, reduceCtorEq, Nat.reduceEqDiff]
    exact ih (i + 1) (by omega) hd

theorem Tryd.nodeLoop (l : List OutR) (hl : l.length ≤ 300) (u : AV) (all : Int) (H : AH) (hv : SliceV H 9 u l.length (rowsOf OutR.cells l)) (K : AX → St → Prop) (ks : List Fr) (L : ACode) (hL : L = .loop (some [0, 4, 5, 7]) Tryd.fn6_l0) :
    ∀ (m i : Nat), m + i = l.length → (∀ a b, Nx Tryd.call K ks [(83, .bool false), (0, u), (4, .int .i64 (l.countP (inN 16) : Nat)), (5, .int .i64 all), (7, a), (83, b)] H) →
      W Tryd.call K (.block 2 :: ks) [(0, u), (4, .int .i64 ((l.take i).countP (inN 16) : Nat)), (5, .int .i64 all), (7, .int .i64 i)] H L := by
  have hwl := hv.lenS
  intro m
  induction m with
  | zero =>
    intro i hi hd
    refine W_loopN hL ?_
    have hi' : i = l.length := by omega
    subst hi'
    have hlt : ((l.length : Int) < (l.length : Int)) = False := eq_false (by omega)
    rw [List.take_length]
    simp only [Tryd.fn6_l0, Tryd.fn6_r17, hwl, hlt, AmR, kp, pushA, exe, Arg.val, Env.at, lk, putd, ok1, okM, abin, Option.getD_some, if_true, if_false, reduceCtorEq, Nat.reduceEqDiff, decide_false, Option.map_some, ↓exe_lenl]
    exact hd _ _
  | succ m ih =>
    intro i hi hd
    refine W_loopN hL ?_
    obtain ⟨x, hx⟩ : ∃ x, l[i]? = some x := ⟨_, List.getElem?_eq_getElem (by omega)⟩
    have h0 : (0 : Int) ≤ (i : Int) := by omega
    have h1 : ((i : Int) < (l.length : Int)) = True := eq_true (by omega)
    have hw := succ_wrap (i := i) (by omega)
    rcases hv.cases with ⟨rfl, h, _⟩ | ⟨rfl, h, _⟩ | ⟨q1, o, cc, bm, rfl, hbm, hlm, hcm⟩
    · omega
    · omega
    have hc0 : bm.cells[o + i * 9]? = some (.int .i64 x.node) := by have := cell_row9 OutR.cells_len hcm hx (j := 0) (by omega); exact this
    have hst : (l.take (i + 1)).countP (inN 16) = (l.take i).countP (inN 16) + if inN 16 x then 1 else 0 := by
      rw [List.take_add_one, hx]
      simp [List.countP_append, List.countP_cons]
    have hb : (l.take i).countP (inN 16) ≤ 300 := by have h1 : (l.take i).countP (inN 16) ≤ (l.take i).length := List.countP_le_length; rw [List.length_take] at h1; omega
    have hw1 := succ_wrap (i := (l.take i).countP (inN 16)) (by omega)
    have next := ih (i + 1) (by omega) hd
    rw [hst] at next
    simp only [Tryd.fn6_l0, Tryd.fn6_r17, hwl, h1, AmR, kp, pushA, exe, Arg.val, Env.at, lk, putd, ok1, okM, abin, Option.getD_some, if_true, if_false, reduceCtorEq, Nat.reduceEqDiff, decide_true, Option.map_some, ↓exe_lenl]
    by_cases hneg : x.node ≥ 0
    · have e1 : (x.node ≥ 0) = True := eq_true hneg
      by_cases hlt : x.node < 16
      · have e2 : (x.node < 16) = True := eq_true hlt
        have hin : inN 16 x = true := by unfold inN; rw [decide_eq_true (show 0 ≤ x.node from hneg), decide_eq_true (show x.node < ((16 : Nat) : Int) by omega)]; rfl
        rw [hin, if_pos rfl] at next
        simp only [Tryd.fn6_r18, h0, h1, hbm, hc0, e1, Int.toNat_natCast, and_self, Nat.add_zero, AmR, kp, exe, Arg.val, Env.at, lk, putd, ok1, okM, abin, Option.getD_some, if_true, if_false, reduceCtorEq, Nat.reduceEqDiff, decide_true]
        simp only [Tryd.fn6_r19, hbm, hc0, e2, Nat.add_zero, AmR, kp, pushA, exe, Arg.val, Env.at, lk, putd, ok1, okM, abin, Option.getD_some, if_true, if_false, reduceCtorEq, Nat.reduceEqDiff, decide_true]
        simp only [Tryd.fn6_r20, hw1, AmR, kp, exe, Arg.val, Env.at, lk, putd, ok1, okM, abin, Option.getD_some, if_true, if_false, reduceCtorEq, Nat.reduceEqDiff]
        simp only [Tryd.fn6_r21, hw, AmR, kp, exe, Arg.val, Env.at, lk, putd, ok1, okM, abin, Option.getD_some, if_true, if_false, reduceCtorEq, Nat.reduceEqDiff]
        exact next
      · have e2 : (x.node < 16) = False := eq_false hlt
        have hin : inN 16 x = false := by unfold inN; rw [decide_eq_false (show ¬ x.node < ((16 : Nat) : Int) by omega), Bool.and_false]
        rw [hin, if_neg (by simp), Nat.add_zero] at next
        simp only [Tryd.fn6_r18, h0, h1, hbm, hc0, e1, Int.toNat_natCast, and_self, Nat.add_zero, AmR, kp, exe, Arg.val, Env.at, lk, putd, ok1, okM, abin, Option.getD_some, if_true, if_false, reduceCtorEq, Nat.reduceEqDiff, decide_true]
        simp only [Tryd.fn6_r19, hbm, hc0, e2, Nat.add_zero, AmR, kp, pushA, exe, Arg.val, Env.at, lk, putd, ok1, okM, abin, Option.getD_some, if_true, if_false, reduceCtorEq, Nat.reduceEqDiff, decide_false]
        simp only [Tryd.fn6_r21, hw, AmR, kp, exe, Arg.val, Env.at, lk, putd, ok1, okM, abin, Option.getD_some, if_true, if_false, reduceCtorEq, Nat.reduceEqDiff]
        exact next
    · have e1 : (x.node ≥ 0) = False := eq_false hneg
      have hin : inN 16 x = false := by unfold inN; rw [decide_eq_false (show ¬ 0 ≤ x.node from hneg)]; rfl
      rw [hin, if_neg (by simp), Nat.add_zero] at next
      simp only [Tryd.fn6_r18, h0, h1, hbm, hc0, e1, Int.toNat_natCast, and_self, Nat.add_zero, AmR, kp, exe, Arg.val, Env.at, lk, putd, ok1, okM, abin, Option.getD_some, if_true, if_false, reduceCtorEq, Nat.reduceEqDiff, decide_false]
      simp only [Tryd.fn6_r19, AmR, kp, pushA, exe, Arg.val, Env.at, lk, putd, ok1, Option.getD_some, if_true, if_false, reduceCtorEq, Nat.reduceEqDiff, Bool.false_eq_true]
      simp only [Tryd.fn6_r21, hw, AmR, kp, exe, Arg.val, Env.at, lk, putd, ok1, okM, abin, Option.getD_some, if_true, if_false, reduceCtorEq, Nat.reduceEqDiff]
      exact next

theorem Tryd.lawCounts (H : AH) (hNm : Names H) (hfl : H.floor ≤ H.next) (v : AV) (l : List OutR) (hv : SliceV H 9 v l.length (rowsOf OutR.cells l)) : ∃ H', Tryd.call 6 [v] H = some (.ok (.bool true), H') := by
  refine ⟨H, ?_⟩
  obtain ⟨w, bs, kq, hvw, sw, hN0, _, hw⟩ := views_one hv (outs_flat l) 6 (rest := []) (us := []) fun k => views_nil H k
  refine ecall_flat 6 [] _ _ (out := [.bool true]) rfl rfl rfl hvw rfl ?_
  show W Tryd.call _ _ _ _ _
  generalize hH : (⟨bs ++ [], kq, kq⟩ : AH) = H0 at *
  have hn : H0.next = kq := by rw [← hH]
  subst hn
  have hlv := Tryd.lives H0
  have hwl := sw.lenS
  have hsh := Tryd.short w l H0 sw
  simp only [Tryd.fn6, Tryd.fn6_r0, Tryd.fn6_r1, hlv, AmR, kp, pushA, exe, number, Arg.val, Env.at, lk, putd, ok1, okM, Option.getD_some, if_true, if_false, Bool.not_true, reduceCtorEq, Nat.reduceEqDiff, aun, List.map_nil]
  cases hb : shortB l with
  | false =>
    rw [hb] at hsh
    simp only [Tryd.fn6_r3, hsh, AmR, kp, pushA, exe, Arg.val, Env.at, lk, putd, ok1, okM, Option.getD_some, if_true, if_false, Bool.not_false, reduceCtorEq, Nat.reduceEqDiff, aun, List.map_cons, List.map_nil]
    simp only [Tryd.fn6_r4, AmR, kp, exe, Arg.val, Env.at, lk, putd, ok1, Option.getD_some, if_true, if_false, reduceCtorEq, Nat.reduceEqDiff, resAll, resOf]
  | true =>
    rw [hb] at hsh
    have hl : l.length ≤ 300 := by
      unfold shortB at hb
      simp only [Bool.and_eq_true, decide_eq_true_eq] at hb
      exact hb.1.1
    obtain ⟨u1, H1, a1, a2, a3, a4, a5⟩ := Tryd.counts w l (by omega) 16 H0 hN0 sw
    have sw1 := sw.grow a3 hw
    obtain ⟨u2, H2, b1, b2, b3, b4, b5⟩ := Tryd.counts w l (by omega) (-1) H1 a4 sw1
    have hw1 : ∀ i o z n c, w = .sl i o z n c → i < H1.next := fun i o z n c e => Nat.lt_of_lt_of_le (hw i o z n c e) a3.2.1
    have sw2 := sw1.grow b3 hw1
    obtain ⟨u3, H3, c1, c2, c3, c4, c5⟩ := Tryd.counts w l (by omega) 17 H2 b4 sw2
    have hw2 : ∀ i o z n c, w = .sl i o z n c → i < H2.next := fun i o z n c e => Nat.lt_of_lt_of_le (hw1 i o z n c e) b3.2.1
    have sw3 := sw2.grow c3 hw2
    have s1 := (a2.grow b3 a5).grow c3 fun i o z n c e => Nat.lt_of_lt_of_le (a5 i o z n c e) b3.2.1
    have n1 : nnOf 16 = 16 := rfl
    have n2 : nnOf (-1) = 0 := rfl
    have n3 : nnOf 17 = 16 := rfl
    rw [n1] at s1
    have l1 : lenS u1 = some 16 := a2.lenS
    have l2 : lenS u2 = some 0 := b2.lenS
    have l3 : lenS u3 = some 16 := c2.lenS
    have z1 : ((((16 : Nat) : Int)) != 16) = false := rfl
    have z2 : ((((0 : Nat) : Int)) != 0) = false := rfl
    simp only [Tryd.fn6_r3, hsh, AmR, kp, pushA, exe, Arg.val, Env.at, lk, putd, ok1, okM, Option.getD_some, if_true, if_false, Bool.not_true, reduceCtorEq, Nat.reduceEqDiff, aun, List.map_cons, List.map_nil]
    simp only [Tryd.fn6_r5, a1, AmR, kp, exe, Arg.val, Env.at, lk, putd, ok1, Option.getD_some, if_true, if_false, reduceCtorEq, Nat.reduceEqDiff, List.map_cons, List.map_nil]
    simp only [Tryd.fn6_r6, l1, b1, l2, AmR, kp, exe, Arg.val, Env.at, lk, putd, ok1, okM, abin, Option.getD_some, if_true, if_false, reduceCtorEq, Nat.reduceEqDiff, Bool.false_eq_true, List.map_cons, List.map_nil, Option.map_some, Int.reduceNeg, bne_self_eq_false, Int.cast_ofNat_Int, ↓exe_lenl]
    simp only [Tryd.fn6_r7, c1, l3, AmR, kp, pushA, exe, Arg.val, Env.at, lk, putd, ok1, okM, abin, Option.getD_some, if_true, if_false, reduceCtorEq, Nat.reduceEqDiff, Bool.false_eq_true, List.map_cons, List.map_nil, Option.map_some, bne_self_eq_false, Int.cast_ofNat_Int, ↓exe_lenl]
    simp only [Tryd.fn6_r9, AmR, kp, exe, Arg.val, Env.at, lk, putd, ok1, Option.getD_some, if_true, if_false, reduceCtorEq, Nat.reduceEqDiff]
    simp only [Tryd.fn6_r10, AmR, kp, exe, Arg.val, Env.at, lk, putd, ok1, Option.getD_some, if_true, if_false, reduceCtorEq, Nat.reduceEqDiff]
    refine Tryd.sumLoop l hl w u1 H3 c4 sw3.lenS s1 _ _ _ rfl 16 0 rfl fun a b => ?_
    simp only [Tryd.fn6_r16, AmR, kp, exe, Arg.val, Env.at, lk, putd, ok1, Option.getD_some, if_true, if_false, reduceCtorEq, Nat.reduceEqDiff]
    refine Tryd.nodeLoop l hl w _ H3 sw3 _ _ _ rfl l.length 0 (by omega) fun a b => ?_
    have hs : (((l.countP (inN 16) : Nat) : Int) == ((sumF (cn0 l) 16 : Nat) : Int)) = true := by rw [sum_in]; simp
    simp only [Tryd.fn6_r22, hs, AmR, kp, exe, Arg.val, Env.at, lk, putd, ok1, okM, abin, Option.getD_some, if_true, if_false, reduceCtorEq, Nat.reduceEqDiff, resAll, resOf]

end Go.Am
